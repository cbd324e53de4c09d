/-
  Words, plain models, laws and walks that the claims of this layer share (joined by shake.py). No condition.
-/
import Derived.Test.YtoldelocfmpccaaX3
set_option linter.unusedSimpArgs false
set_option linter.unusedVariables false
namespace Go.Proofs.Ytoldelocfmpccaa
open Go.RowKit
theorem Qg.form3 {α : Type} {f : α → List Value} {n : Nat} {e : TypeId} {w : World} {B : Nat} {v : Value} {l : List α} (h : Qg f n e w B v l) : ∃ A n c, v = .slice A n c ∧ n ≤ c ∧ c ≤ maxLen := by
 obtain ⟨A, c, h1, h2, h3⟩ := h.form;exact ⟨A, _, c, h1, h2, h3⟩
structure Wo (a : Ver) (l : List Ver) (k : Nat) (bb : Bool) (v : Value) (w wr : World) : Prop where
 le : k ≤ l.length
 own : ∃ O, QaW wr (w.heap.size + 1) v O ∧ O ++ Xi a bb (l.drop k) = Xi a false l ∧ O.length ≤ k + bb.toNat
 row : Row wr w.heap.size 69 (Qz a)
 size : w.heap.size + 1 ≤ wr.heap.size
 same : Qa (fun _ => True) w wr
set_option maxRecDepth 100000 in
set_option maxHeartbeats 4000000 in
theorem Vk (v : Value) (l : List Ver) (a : Ver) (w : World) (hv : Zl w (fun q => q < w.heap.size) v l) (hs : XU l) (hn : l.length ≤ 1000000) :
  Calls Try.prog 90 #[v, QbT a] w (Qag (X9 l a) w) := by
 obtain ⟨A, cp, rfl, hc, hm⟩ := hv.form;have Hv := LH hv;unfold maxLen at hm;have K := Vi (v := a) hs
 have hrel0 : Wo a l 0 false (.slice none 0 0) w (w.alloc (.cells (Qz a).toArray 69)) :=
  ⟨Nat.zero_le _, ⟨[], Qg.nil _ _, by simp, by simp⟩, Row.new _ _ _, by simp, SR.alloc _⟩
 have Hrel0 := LH hrel0;have HK := LH K;clear hv hrel0 hs K;go_enter Try.func90, Try.ntmps90;go_wp2;go_loopw [5, 6, 7] (fun v5 b6 i wr => ∃ (k : Nat) (bb : Bool), i = .int .i64 k ∧ b6 = .bool bb ∧ Wo a l k bb v5 w wr) (fun _ _ i _ => l.length - (intOf i).toNat)
 case atStart => exact ⟨0, false, rfl, rfl, Hrel0.out⟩
 case round =>
  obtain ⟨k, bb, rfl, rfl, hk, ⟨O, hown, heq, hlen⟩, hrow, hsz, hS⟩ := hrel;obtain ⟨Al, nl, cl, rfl, hl1, hl2⟩ := hown.form3;unfold maxLen at hl2;have hpl := hrow.lt;have t0 : wr.cell? ⟨w.heap.size, 0, none⟩ = some (.int .i64 a.at_.wall) := hrow.cell 0;have t1 : wr.cell? ⟨w.heap.size, 1, none⟩ = some (.int .i64 a.at_.tie) := hrow.cell 1;have t2 : wr.cell? ⟨w.heap.size, 2, none⟩ = some (.bool a.drop) := hrow.cell 2;have t3 : wr.cell? ⟨w.heap.size, 3, none⟩ = some (.string (str a.data)) := hrow.cell 3;have HS := LH hS;have Hrow := LH hrow;have Hown := LH hown;have Heq := LH heq;clear hrow hown heq;by_cases hlt : k < l.length
  ·obtain ⟨ad, rfl, hSad, d0, d1, d2, d3⟩ := Zl.cells (Hv.out.keepAll hS) hlt;have hdrop : l.drop k = l[k] :: l.drop (k + 1) := List.drop_eq_getElem_cons hlt;have x1 : (0 : Int) ≤ (k : Int) := by omega
   have x2 : (k : Int) < (l.length : Int) := by omega
   have hab := World.block_lt_of_cell? wr _ d0;have hSad' : (ad.add (k * 4)).block < w.heap.size := by rw [QK]; exact hSad
   have gl := fun W => X8 l[k].at_ a.at_ W
   have heq := Heq.out;rw [hdrop] at heq;generalize l[k] = x at *;have HSad := LH hSad';have Hdrop := LH hdrop;clear hS hdrop hSad hSad' Heq
   obtain ⟨kd, hkd⟩ : ∃ kd : Nat, (kd = 0 ∧ x.at_ = a.at_) ∨ (kd = 1 ∧ x.at_.wall ≠ a.at_.wall) ∨ (kd = 2 ∧ x.at_.wall = a.at_.wall ∧ x.at_.tie ≠ a.at_.tie) := by
    by_cases h1 : x.at_.wall = a.at_.wall
    ·by_cases h2 : x.at_.tie = a.at_.tie
     ·exact ⟨0, .inl ⟨rfl, (QaV _ _).2 ⟨h1, h2⟩⟩⟩
     ·exact ⟨2, .inr (.inr ⟨rfl, h1, h2⟩)⟩
    ·exact ⟨1, .inr (.inl ⟨rfl, h1⟩)⟩
   cases bb
   ·cases hlb : QG x.at_ a.at_
    ·rcases hkd with ⟨-, he⟩ | ⟨-, hw⟩ | ⟨-, hw, ht⟩
     ·have heq' : (O ++ [a]) ++ Xi a true (l.drop (k + 1)) = Xi a false l := by
       rw [← heq];simp [Xi, hlb, he, ZA]
      have Heq := LH heq';have Hlen0 := LH (show O.length ≤ k + 1 from by have := hlen; simp at this; omega);have Hlen := LH (show (O ++ [a]).length ≤ k + (true : Bool).toNat from by have := hlen; simp at this ⊢; omega);rw [hlb] at gl;have He := LH he;clear he heq heq' hlen;clear hlb;go_wp2;refine Qi (vs := [(.bool false), (.bool true), (.bool true), (.slice (some ad) l.length cp), (.int .i64 k), (.pointer (some (ad.add (k * 4)))), (.pointer (some (ad.add (k * 4)))), (stV x.at_), (.pointer (some ⟨w.heap.size, 0, none⟩)), (stV a.at_), (.bool false), (.bool true), (.bool true)]) (by kernel_rfl) (by kernel_rfl) rfl rfl ?_ ?_
      ·refine ⟨?_, ?_, ?_, ?_, ?_, ?_, ?_, ?_, ?_, ?_, ?_, ?_, ?_, tv⟩
       all_goals intro ac wc hs hd hz hf hw K hK
       ·have e0 := EV 6 (.bool false) (hf 6 rfl);clear hd hz hf hw;simp only [if_true, RL, e0];go_simp;exact hK _ _ rfl SR
       ·have e0 := EV 14 (.bool false) (hw 0 rfl);clear hd hz hf hw;simp only [if_true, RL, e0];go_simp;exact hK _ _ rfl SR
       ·have e0 := EV 15 (.bool true) (hw 1 rfl);clear hd hz hf hw;simp only [if_true, RL, e0];go_simp;exact hK _ _ rfl SR
       ·refine RW 2 16 true hz (hw 2 rfl) ?_;have e0 := EV 0 (.slice (some ad) l.length cp) (hf 0 rfl);clear hd hz hf hw;simp only [RL, e0];go_simp;exact hK _ _ rfl SR
       ·refine RW 2 16 true hz (hw 2 rfl) ?_;have e0 := EV 7 (.int .i64 k) (hf 7 rfl);clear hd hz hf hw;simp only [RL, e0];go_simp;exact hK _ _ rfl SR
       ·refine RW 2 16 true hz (hw 2 rfl) ?_;have e0 := EV 17 (.slice (some ad) l.length cp) (hw 3 rfl);have e1 := EV 18 (.int .i64 k) (hw 4 rfl);clear hd hz hf hw;simp only [RL, e0, e1];go_simp;exact hK _ _ rfl SR
       ·refine RW 2 16 true hz (hw 2 rfl) ?_;have e0 := EV 19 (.pointer (some (ad.add (k * 4)))) (hw 5 rfl);clear hd hz hf hw;simp only [RL, e0];go_simp;exact hK _ _ rfl SR
       ·refine RW 2 16 true hz (hw 2 rfl) ?_;have e0 := EV 20 (.pointer (some (ad.add (k * 4)))) (hw 6 rfl);have m0 := MC d0 hs tv;have m1 := MC d1 hs tv;clear hd hz hf hw;simp only [RL, e0];go_simp;exact hK _ _ rfl SR
       ·refine RW 2 16 true hz (hw 2 rfl) ?_;have e0 := EP 3 w.heap.size 0 (hf 3 rfl);clear hd hz hf hw;simp only [RL, e0];go_simp;exact hK _ _ rfl SR
       ·refine RW 2 16 true hz (hw 2 rfl) ?_;have e0 := EP 22 w.heap.size 0 (hw 8 rfl);have m0 := MC t0 hs tv;have m1 := MC t1 hs tv;clear hd hz hf hw;simp only [RL, e0];go_simp;exact hK _ _ rfl SR
       ·refine RW 2 16 true hz (hw 2 rfl) ?_;have e0 := EV 21 (stV x.at_) (hw 7 rfl);have e1 := EV 23 (stV a.at_) (hw 9 rfl);clear hd hz hf hw;simp only [RL, e0, e1];go_simp;refine (gl _).mono ?_;rintro e wd ⟨rfl, hs2⟩;exact hK _ _ rfl hs2
       ·refine RW 2 16 true hz (hw 2 rfl) ?_;have e0 := EV 24 (.bool false) (hw 10 rfl);clear hd hz hf hw;simp only [RL, e0];go_simp;exact hK _ _ rfl SR
       ·have e0 := EV 16 (.bool true) (hw 2 rfl);have e1 := EV 25 (.bool true) (hw 11 rfl);clear hd hz hf hw;simp only [if_true, RL, e0, e1];go_simp;exact hK _ _ rfl SR
      ·intro wR hsR;simp only [Qk, Act.put, LP];have hown1 := Hown.out.keepAll hsR;have hrow1 := Hrow.out.keep hsR tv;have hS1 := HS.out.trans hsR;have d0 := hsR.cell (p := ad.add (k * 4)) tv d0;have d1 := hsR.cell (p := ⟨(ad.add (k * 4)).block, (ad.add (k * 4)).off + 1, none⟩) tv d1;have d2 := hsR.cell (p := ⟨(ad.add (k * 4)).block, (ad.add (k * 4)).off + 2, none⟩) tv d2;have d3 := hsR.cell (p := ⟨(ad.add (k * 4)).block, (ad.add (k * 4)).off + 3, none⟩) tv d3;have t0 : wR.cell? ⟨w.heap.size, 0, none⟩ = some (.int .i64 a.at_.wall) := hrow1.cell 0;have t1 : wR.cell? ⟨w.heap.size, 1, none⟩ = some (.int .i64 a.at_.tie) := hrow1.cell 1;have t2 : wR.cell? ⟨w.heap.size, 2, none⟩ = some (.bool a.drop) := hrow1.cell 2;have t3 : wR.cell? ⟨w.heap.size, 3, none⟩ = some (.string (str a.data)) := hrow1.cell 3;have hsz7 : w.heap.size + 1 ≤ wR.heap.size := Nat.le_trans hsz hsR.size;have Hown := LH hown1;have Hrow := LH hrow1;have HS := LH hS1;clear hown1 hrow1 hS1 hsR;go_wp2_with (at_builtin; refine Qf ?_);unfold Hid;refine QT ZD Qq QV (w := wR) (c := a) (B := w.heap.size + 1) rfl (.tmp 27) (.tmp 29) rfl rfl rfl (by first | rfl | simp) Hown.out hsz7 (by have := Hlen0.out; simp only [maxLen]; omega) (by have := Hlen0.out; omega) ?_;intro v6 w6 k1 k2
       obtain ⟨Al6, nl6, cl6, rfl, hl3, hl4⟩ : ∃ Aq nq cq, v6 = Value.slice Aq nq cq ∧ nq ≤ cq ∧ cq ≤ maxLen := by
        obtain ⟨Aq, cq, h1, h2, h3⟩ := k1.form;exact ⟨Aq, _, cq, h1, h2, h3⟩
       unfold maxLen at hl4;have hrow1 := Hrow.out.keep k2 (by omega);have hS1 := HS.out.trans' k2 fun q hq _ => by omega
       have d0 := k2.cell (p := ad.add (k * 4)) (by have := HSad.out; omega) d0;have d1 := k2.cell (p := ⟨(ad.add (k * 4)).block, (ad.add (k * 4)).off + 1, none⟩) (by have := HSad.out; show (ad.add (k * 4)).block < _; omega) d1;have d2 := k2.cell (p := ⟨(ad.add (k * 4)).block, (ad.add (k * 4)).off + 2, none⟩) (by have := HSad.out; show (ad.add (k * 4)).block < _; omega) d2;have d3 := k2.cell (p := ⟨(ad.add (k * 4)).block, (ad.add (k * 4)).off + 3, none⟩) (by have := HSad.out; show (ad.add (k * 4)).block < _; omega) d3;have t0 : w6.cell? ⟨w.heap.size, 0, none⟩ = some (.int .i64 a.at_.wall) := hrow1.cell 0;have t1 : w6.cell? ⟨w.heap.size, 1, none⟩ = some (.int .i64 a.at_.tie) := hrow1.cell 1;have hsz7 : w.heap.size + 1 ≤ w6.heap.size := Nat.le_trans hsz7 k2.size;have hab6 := World.block_lt_of_cell? w6 _ d0;have Hown := LH k1;have Hrow := LH hrow1;have HS := LH hS1;clear k1 k2 hrow1 hS1 t2 t3;rw [He.out] at d0 d1;go_wp2;go_quiet (fail);rename_i nq;go_wp2;go_roundw
       case rel =>
        have hsq := (Qa.refl (fun _ => True) w6).drewN nq;exact ⟨k + 1, true, by go_num, rfl, by omega, ⟨_, Hown.out.keepAll hsq, Heq.out, by have := Hlen.out; omega⟩, Hrow.out.keep hsq tv, Nat.le_trans hsz7 hsq.size, HS.out.trans hsq⟩
       case measure => simp [intOf]; omega
     ·have hne : ¬ x.at_ = a.at_ := fun h => hw (by rw [h])
      have heq' : (O ++ [a]) ++ [x] ++ Xi a true (l.drop (k + 1)) = Xi a false l := by
       rw [← heq];simp [Xi, hlb, hne]
      have Heq := LH heq';have Hlen0 := LH (show O.length ≤ k + 1 from by have := hlen; simp at this; omega);have Hlen := LH (show (O ++ [a]).length ≤ k + (true : Bool).toNat from by have := hlen; simp at this ⊢; omega);have y1 : (x.at_.wall != a.at_.wall) = true := by simpa using hw
      have y2 : (x.at_.wall == a.at_.wall) = false := by simpa using hw
      clear heq heq' hlen hne hw;rw [hlb] at gl;clear hlb;go_wp2;refine Qi (vs := [(.bool false), (.bool true), (.bool true), (.slice (some ad) l.length cp), (.int .i64 k), (.pointer (some (ad.add (k * 4)))), (.pointer (some (ad.add (k * 4)))), (stV x.at_), (.pointer (some ⟨w.heap.size, 0, none⟩)), (stV a.at_), (.bool false), (.bool true), (.bool true)]) (by kernel_rfl) (by kernel_rfl) rfl rfl ?_ ?_
      ·refine ⟨?_, ?_, ?_, ?_, ?_, ?_, ?_, ?_, ?_, ?_, ?_, ?_, ?_, tv⟩
       all_goals intro ac wc hs hd hz hf hw K hK
       ·have e0 := EV 6 (.bool false) (hf 6 rfl);clear hd hz hf hw;simp only [if_true, RL, e0];go_simp;exact hK _ _ rfl SR
       ·have e0 := EV 14 (.bool false) (hw 0 rfl);clear hd hz hf hw;simp only [if_true, RL, e0];go_simp;exact hK _ _ rfl SR
       ·have e0 := EV 15 (.bool true) (hw 1 rfl);clear hd hz hf hw;simp only [if_true, RL, e0];go_simp;exact hK _ _ rfl SR
       ·refine RW 2 16 true hz (hw 2 rfl) ?_;have e0 := EV 0 (.slice (some ad) l.length cp) (hf 0 rfl);clear hd hz hf hw;simp only [RL, e0];go_simp;exact hK _ _ rfl SR
       ·refine RW 2 16 true hz (hw 2 rfl) ?_;have e0 := EV 7 (.int .i64 k) (hf 7 rfl);clear hd hz hf hw;simp only [RL, e0];go_simp;exact hK _ _ rfl SR
       ·refine RW 2 16 true hz (hw 2 rfl) ?_;have e0 := EV 17 (.slice (some ad) l.length cp) (hw 3 rfl);have e1 := EV 18 (.int .i64 k) (hw 4 rfl);clear hd hz hf hw;simp only [RL, e0, e1];go_simp;exact hK _ _ rfl SR
       ·refine RW 2 16 true hz (hw 2 rfl) ?_;have e0 := EV 19 (.pointer (some (ad.add (k * 4)))) (hw 5 rfl);clear hd hz hf hw;simp only [RL, e0];go_simp;exact hK _ _ rfl SR
       ·refine RW 2 16 true hz (hw 2 rfl) ?_;have e0 := EV 20 (.pointer (some (ad.add (k * 4)))) (hw 6 rfl);have m0 := MC d0 hs tv;have m1 := MC d1 hs tv;clear hd hz hf hw;simp only [RL, e0];go_simp;exact hK _ _ rfl SR
       ·refine RW 2 16 true hz (hw 2 rfl) ?_;have e0 := EP 3 w.heap.size 0 (hf 3 rfl);clear hd hz hf hw;simp only [RL, e0];go_simp;exact hK _ _ rfl SR
       ·refine RW 2 16 true hz (hw 2 rfl) ?_;have e0 := EP 22 w.heap.size 0 (hw 8 rfl);have m0 := MC t0 hs tv;have m1 := MC t1 hs tv;clear hd hz hf hw;simp only [RL, e0];go_simp;exact hK _ _ rfl SR
       ·refine RW 2 16 true hz (hw 2 rfl) ?_;have e0 := EV 21 (stV x.at_) (hw 7 rfl);have e1 := EV 23 (stV a.at_) (hw 9 rfl);clear hd hz hf hw;simp only [RL, e0, e1];go_simp;refine (gl _).mono ?_;rintro e wd ⟨rfl, hs2⟩;exact hK _ _ rfl hs2
       ·refine RW 2 16 true hz (hw 2 rfl) ?_;have e0 := EV 24 (.bool false) (hw 10 rfl);clear hd hz hf hw;simp only [RL, e0];go_simp;exact hK _ _ rfl SR
       ·have e0 := EV 16 (.bool true) (hw 2 rfl);have e1 := EV 25 (.bool true) (hw 11 rfl);clear hd hz hf hw;simp only [if_true, RL, e0, e1];go_simp;exact hK _ _ rfl SR
      ·intro wR hsR;simp only [Qk, Act.put, LP];have hown1 := Hown.out.keepAll hsR;have hrow1 := Hrow.out.keep hsR tv;have hS1 := HS.out.trans hsR;have d0 := hsR.cell (p := ad.add (k * 4)) tv d0;have d1 := hsR.cell (p := ⟨(ad.add (k * 4)).block, (ad.add (k * 4)).off + 1, none⟩) tv d1;have d2 := hsR.cell (p := ⟨(ad.add (k * 4)).block, (ad.add (k * 4)).off + 2, none⟩) tv d2;have d3 := hsR.cell (p := ⟨(ad.add (k * 4)).block, (ad.add (k * 4)).off + 3, none⟩) tv d3;have t0 : wR.cell? ⟨w.heap.size, 0, none⟩ = some (.int .i64 a.at_.wall) := hrow1.cell 0;have t1 : wR.cell? ⟨w.heap.size, 1, none⟩ = some (.int .i64 a.at_.tie) := hrow1.cell 1;have t2 : wR.cell? ⟨w.heap.size, 2, none⟩ = some (.bool a.drop) := hrow1.cell 2;have t3 : wR.cell? ⟨w.heap.size, 3, none⟩ = some (.string (str a.data)) := hrow1.cell 3;have hsz7 : w.heap.size + 1 ≤ wR.heap.size := Nat.le_trans hsz hsR.size;have Hown := LH hown1;have Hrow := LH hrow1;have HS := LH hS1;clear hown1 hrow1 hS1 hsR;go_wp2_with (at_builtin; refine Qf ?_);unfold Hid;refine QT ZD Qq QV (w := wR) (c := a) (B := w.heap.size + 1) rfl (.tmp 27) (.tmp 29) rfl rfl rfl (by first | rfl | simp) Hown.out hsz7 (by have := Hlen0.out; simp only [maxLen]; omega) (by have := Hlen0.out; omega) ?_;intro v6 w6 k1 k2
       obtain ⟨Al6, nl6, cl6, rfl, hl3, hl4⟩ : ∃ Aq nq cq, v6 = Value.slice Aq nq cq ∧ nq ≤ cq ∧ cq ≤ maxLen := by
        obtain ⟨Aq, cq, h1, h2, h3⟩ := k1.form;exact ⟨Aq, _, cq, h1, h2, h3⟩
       unfold maxLen at hl4;have hrow1 := Hrow.out.keep k2 (by omega);have hS1 := HS.out.trans' k2 fun q hq _ => by omega
       have d0 := k2.cell (p := ad.add (k * 4)) (by have := HSad.out; omega) d0;have d1 := k2.cell (p := ⟨(ad.add (k * 4)).block, (ad.add (k * 4)).off + 1, none⟩) (by have := HSad.out; show (ad.add (k * 4)).block < _; omega) d1;have d2 := k2.cell (p := ⟨(ad.add (k * 4)).block, (ad.add (k * 4)).off + 2, none⟩) (by have := HSad.out; show (ad.add (k * 4)).block < _; omega) d2;have d3 := k2.cell (p := ⟨(ad.add (k * 4)).block, (ad.add (k * 4)).off + 3, none⟩) (by have := HSad.out; show (ad.add (k * 4)).block < _; omega) d3;have t0 : w6.cell? ⟨w.heap.size, 0, none⟩ = some (.int .i64 a.at_.wall) := hrow1.cell 0;have t1 : w6.cell? ⟨w.heap.size, 1, none⟩ = some (.int .i64 a.at_.tie) := hrow1.cell 1;have hsz7 : w.heap.size + 1 ≤ w6.heap.size := Nat.le_trans hsz7 k2.size;have hab6 := World.block_lt_of_cell? w6 _ d0;have Hown := LH k1;have Hrow := LH hrow1;have HS := LH hS1;clear k1 k2 hrow1 hS1 t2 t3;go_wp2;go_quiet (fail);rename_i nq;go_wp2_with (at_builtin; refine Qf ?_);unfold Hid;have hsq := (Qa.refl (fun _ => True) w6).drewN nq;refine QT ZD Qq QV (w := w6.drewN nq) (c := x) (B := w.heap.size + 1) rfl (.tmp 39) (.tmp 44) rfl rfl rfl (by first | rfl | simp) (Hown.out.keepAll hsq) (Nat.le_trans hsz7 hsq.size) (by have := Hlen.out; simp at this; simp only [maxLen]; first | omega | (simp; omega)) (by have := Hlen.out; simp at this; first | omega | (simp; omega)) ?_;intro v9 w9 k1 k2;have K1 := LH k1;have K2 := LH k2;have Hsq := LH hsq;clear k1 k2 hsq;go_wp2;go_roundw
       case rel =>
        have hs9 : Qa (fun q => q < w.heap.size + 1) w6 w9 := (Hsq.out.mono fun _ _ _ => tv).trans K2.out;exact ⟨k + 1, true, by go_num, rfl, by omega, ⟨_, K1.out, Heq.out, by have := Hlen.out; simp only [List.length_append, List.length_singleton] at this ⊢; omega⟩, Hrow.out.keep hs9 (by omega), Nat.le_trans hsz7 hs9.size, HS.out.trans' hs9 fun q hq _ => by omega⟩
       case measure => simp [intOf]; omega
     ·have hne : ¬ x.at_ = a.at_ := fun h => ht (by rw [h])
      have heq' : (O ++ [a]) ++ [x] ++ Xi a true (l.drop (k + 1)) = Xi a false l := by
       rw [← heq];simp [Xi, hlb, hne]
      have Heq := LH heq';have Hlen0 := LH (show O.length ≤ k + 1 from by have := hlen; simp at this; omega);have Hlen := LH (show (O ++ [a]).length ≤ k + (true : Bool).toNat from by have := hlen; simp at this ⊢; omega);have y1 : (x.at_.tie != a.at_.tie) = true := by simpa using ht
      have y2 : (x.at_.tie == a.at_.tie) = false := by simpa using ht
      have Hw := LH hw;clear heq heq' hlen hne ht hw;rw [hlb] at gl;clear hlb;go_wp2;refine Qi (vs := [(.bool false), (.bool true), (.bool true), (.slice (some ad) l.length cp), (.int .i64 k), (.pointer (some (ad.add (k * 4)))), (.pointer (some (ad.add (k * 4)))), (stV x.at_), (.pointer (some ⟨w.heap.size, 0, none⟩)), (stV a.at_), (.bool false), (.bool true), (.bool true)]) (by kernel_rfl) (by kernel_rfl) rfl rfl ?_ ?_
      ·refine ⟨?_, ?_, ?_, ?_, ?_, ?_, ?_, ?_, ?_, ?_, ?_, ?_, ?_, tv⟩
       all_goals intro ac wc hs hd hz hf hw K hK
       ·have e0 := EV 6 (.bool false) (hf 6 rfl);clear hd hz hf hw;simp only [if_true, RL, e0];go_simp;exact hK _ _ rfl SR
       ·have e0 := EV 14 (.bool false) (hw 0 rfl);clear hd hz hf hw;simp only [if_true, RL, e0];go_simp;exact hK _ _ rfl SR
       ·have e0 := EV 15 (.bool true) (hw 1 rfl);clear hd hz hf hw;simp only [if_true, RL, e0];go_simp;exact hK _ _ rfl SR
       ·refine RW 2 16 true hz (hw 2 rfl) ?_;have e0 := EV 0 (.slice (some ad) l.length cp) (hf 0 rfl);clear hd hz hf hw;simp only [RL, e0];go_simp;exact hK _ _ rfl SR
       ·refine RW 2 16 true hz (hw 2 rfl) ?_;have e0 := EV 7 (.int .i64 k) (hf 7 rfl);clear hd hz hf hw;simp only [RL, e0];go_simp;exact hK _ _ rfl SR
       ·refine RW 2 16 true hz (hw 2 rfl) ?_;have e0 := EV 17 (.slice (some ad) l.length cp) (hw 3 rfl);have e1 := EV 18 (.int .i64 k) (hw 4 rfl);clear hd hz hf hw;simp only [RL, e0, e1];go_simp;exact hK _ _ rfl SR
       ·refine RW 2 16 true hz (hw 2 rfl) ?_;have e0 := EV 19 (.pointer (some (ad.add (k * 4)))) (hw 5 rfl);clear hd hz hf hw;simp only [RL, e0];go_simp;exact hK _ _ rfl SR
       ·refine RW 2 16 true hz (hw 2 rfl) ?_;have e0 := EV 20 (.pointer (some (ad.add (k * 4)))) (hw 6 rfl);have m0 := MC d0 hs tv;have m1 := MC d1 hs tv;clear hd hz hf hw;simp only [RL, e0];go_simp;exact hK _ _ rfl SR
       ·refine RW 2 16 true hz (hw 2 rfl) ?_;have e0 := EP 3 w.heap.size 0 (hf 3 rfl);clear hd hz hf hw;simp only [RL, e0];go_simp;exact hK _ _ rfl SR
       ·refine RW 2 16 true hz (hw 2 rfl) ?_;have e0 := EP 22 w.heap.size 0 (hw 8 rfl);have m0 := MC t0 hs tv;have m1 := MC t1 hs tv;clear hd hz hf hw;simp only [RL, e0];go_simp;exact hK _ _ rfl SR
       ·refine RW 2 16 true hz (hw 2 rfl) ?_;have e0 := EV 21 (stV x.at_) (hw 7 rfl);have e1 := EV 23 (stV a.at_) (hw 9 rfl);clear hd hz hf hw;simp only [RL, e0, e1];go_simp;refine (gl _).mono ?_;rintro e wd ⟨rfl, hs2⟩;exact hK _ _ rfl hs2
       ·refine RW 2 16 true hz (hw 2 rfl) ?_;have e0 := EV 24 (.bool false) (hw 10 rfl);clear hd hz hf hw;simp only [RL, e0];go_simp;exact hK _ _ rfl SR
       ·have e0 := EV 16 (.bool true) (hw 2 rfl);have e1 := EV 25 (.bool true) (hw 11 rfl);clear hd hz hf hw;simp only [if_true, RL, e0, e1];go_simp;exact hK _ _ rfl SR
      ·intro wR hsR;simp only [Qk, Act.put, LP];have hown1 := Hown.out.keepAll hsR;have hrow1 := Hrow.out.keep hsR tv;have hS1 := HS.out.trans hsR;have d0 := hsR.cell (p := ad.add (k * 4)) tv d0;have d1 := hsR.cell (p := ⟨(ad.add (k * 4)).block, (ad.add (k * 4)).off + 1, none⟩) tv d1;have d2 := hsR.cell (p := ⟨(ad.add (k * 4)).block, (ad.add (k * 4)).off + 2, none⟩) tv d2;have d3 := hsR.cell (p := ⟨(ad.add (k * 4)).block, (ad.add (k * 4)).off + 3, none⟩) tv d3;have t0 : wR.cell? ⟨w.heap.size, 0, none⟩ = some (.int .i64 a.at_.wall) := hrow1.cell 0;have t1 : wR.cell? ⟨w.heap.size, 1, none⟩ = some (.int .i64 a.at_.tie) := hrow1.cell 1;have t2 : wR.cell? ⟨w.heap.size, 2, none⟩ = some (.bool a.drop) := hrow1.cell 2;have t3 : wR.cell? ⟨w.heap.size, 3, none⟩ = some (.string (str a.data)) := hrow1.cell 3;have hsz7 : w.heap.size + 1 ≤ wR.heap.size := Nat.le_trans hsz hsR.size;have Hown := LH hown1;have Hrow := LH hrow1;have HS := LH hS1;clear hown1 hrow1 hS1 hsR;go_wp2_with (at_builtin; refine Qf ?_);unfold Hid;refine QT ZD Qq QV (w := wR) (c := a) (B := w.heap.size + 1) rfl (.tmp 27) (.tmp 29) rfl rfl rfl (by first | rfl | simp) Hown.out hsz7 (by have := Hlen0.out; simp only [maxLen]; omega) (by have := Hlen0.out; omega) ?_;intro v6 w6 k1 k2
       obtain ⟨Al6, nl6, cl6, rfl, hl3, hl4⟩ : ∃ Aq nq cq, v6 = Value.slice Aq nq cq ∧ nq ≤ cq ∧ cq ≤ maxLen := by
        obtain ⟨Aq, cq, h1, h2, h3⟩ := k1.form;exact ⟨Aq, _, cq, h1, h2, h3⟩
       unfold maxLen at hl4;have hrow1 := Hrow.out.keep k2 (by omega);have hS1 := HS.out.trans' k2 fun q hq _ => by omega
       have d0 := k2.cell (p := ad.add (k * 4)) (by have := HSad.out; omega) d0;have d1 := k2.cell (p := ⟨(ad.add (k * 4)).block, (ad.add (k * 4)).off + 1, none⟩) (by have := HSad.out; show (ad.add (k * 4)).block < _; omega) d1;have d2 := k2.cell (p := ⟨(ad.add (k * 4)).block, (ad.add (k * 4)).off + 2, none⟩) (by have := HSad.out; show (ad.add (k * 4)).block < _; omega) d2;have d3 := k2.cell (p := ⟨(ad.add (k * 4)).block, (ad.add (k * 4)).off + 3, none⟩) (by have := HSad.out; show (ad.add (k * 4)).block < _; omega) d3;have t0 : w6.cell? ⟨w.heap.size, 0, none⟩ = some (.int .i64 a.at_.wall) := hrow1.cell 0;have t1 : w6.cell? ⟨w.heap.size, 1, none⟩ = some (.int .i64 a.at_.tie) := hrow1.cell 1;have hsz7 : w.heap.size + 1 ≤ w6.heap.size := Nat.le_trans hsz7 k2.size;have hab6 := World.block_lt_of_cell? w6 _ d0;have Hown := LH k1;have Hrow := LH hrow1;have HS := LH hS1;clear k1 k2 hrow1 hS1 t2 t3;rw [Hw.out] at d0;go_wp2;go_quiet (fail);rename_i nq;go_wp2_with (at_builtin; refine Qf ?_);unfold Hid;have hsq := (Qa.refl (fun _ => True) w6).drewN nq;refine QT ZD Qq QV (w := w6.drewN nq) (c := ⟨⟨a.at_.wall, x.at_.tie⟩, x.drop, x.data⟩) (B := w.heap.size + 1) rfl (.tmp 39) (.tmp 44) rfl rfl rfl (by first | rfl | simp) (Hown.out.keepAll hsq) (Nat.le_trans hsz7 hsq.size) (by have := Hlen.out; simp at this; simp only [maxLen]; first | omega | (simp; omega)) (by have := Hlen.out; simp at this; first | omega | (simp; omega)) ?_;intro v9 w9 k1 k2;rw [show (⟨⟨a.at_.wall, x.at_.tie⟩, x.drop, x.data⟩ : Ver) = x from by rw [← Hw.out]] at k1;have K1 := LH k1;have K2 := LH k2;have Hsq := LH hsq;clear k1 k2 hsq;go_wp2;go_roundw
       case rel =>
        have hs9 : Qa (fun q => q < w.heap.size + 1) w6 w9 := (Hsq.out.mono fun _ _ _ => tv).trans K2.out;exact ⟨k + 1, true, by go_num, rfl, by omega, ⟨_, K1.out, Heq.out, by have := Hlen.out; simp only [List.length_append, List.length_singleton] at this ⊢; omega⟩, Hrow.out.keep hs9 (by omega), Nat.le_trans hsz7 hs9.size, HS.out.trans' hs9 fun q hq _ => by omega⟩
       case measure => simp [intOf]; omega
    ·rcases hkd with ⟨-, he⟩ | ⟨-, hw⟩ | ⟨-, hw, ht⟩
     ·rw [he, ZA] at hlb;cases hlb
     ·have hne : ¬ x.at_ = a.at_ := fun h => hw (by rw [h])
      have heq' : O ++ [x] ++ Xi a false (l.drop (k + 1)) = Xi a false l := by
       rw [← heq];simp [Xi, hlb, hne]
      have Heq := LH heq';have Hlen0 := LH (show O.length ≤ k + 1 from by have := hlen; simp at this; omega);have Hlen := LH (show O.length ≤ k + (false : Bool).toNat from by have := hlen; simp at this ⊢; omega);have y1 : (x.at_.wall != a.at_.wall) = true := by simpa using hw
      have y2 : (x.at_.wall == a.at_.wall) = false := by simpa using hw
      clear heq heq' hlen hne hw;rw [hlb] at gl;clear hlb;go_wp2;refine Qi (vs := [(.bool false), (.bool true), (.bool true), (.slice (some ad) l.length cp), (.int .i64 k), (.pointer (some (ad.add (k * 4)))), (.pointer (some (ad.add (k * 4)))), (stV x.at_), (.pointer (some ⟨w.heap.size, 0, none⟩)), (stV a.at_), (.bool true), (.bool false), (.bool false)]) (by kernel_rfl) (by kernel_rfl) rfl rfl ?_ ?_
      ·refine ⟨?_, ?_, ?_, ?_, ?_, ?_, ?_, ?_, ?_, ?_, ?_, ?_, ?_, tv⟩
       all_goals intro ac wc hs hd hz hf hw K hK
       ·have e0 := EV 6 (.bool false) (hf 6 rfl);clear hd hz hf hw;simp only [if_true, RL, e0];go_simp;exact hK _ _ rfl SR
       ·have e0 := EV 14 (.bool false) (hw 0 rfl);clear hd hz hf hw;simp only [if_true, RL, e0];go_simp;exact hK _ _ rfl SR
       ·have e0 := EV 15 (.bool true) (hw 1 rfl);clear hd hz hf hw;simp only [if_true, RL, e0];go_simp;exact hK _ _ rfl SR
       ·refine RW 2 16 true hz (hw 2 rfl) ?_;have e0 := EV 0 (.slice (some ad) l.length cp) (hf 0 rfl);clear hd hz hf hw;simp only [RL, e0];go_simp;exact hK _ _ rfl SR
       ·refine RW 2 16 true hz (hw 2 rfl) ?_;have e0 := EV 7 (.int .i64 k) (hf 7 rfl);clear hd hz hf hw;simp only [RL, e0];go_simp;exact hK _ _ rfl SR
       ·refine RW 2 16 true hz (hw 2 rfl) ?_;have e0 := EV 17 (.slice (some ad) l.length cp) (hw 3 rfl);have e1 := EV 18 (.int .i64 k) (hw 4 rfl);clear hd hz hf hw;simp only [RL, e0, e1];go_simp;exact hK _ _ rfl SR
       ·refine RW 2 16 true hz (hw 2 rfl) ?_;have e0 := EV 19 (.pointer (some (ad.add (k * 4)))) (hw 5 rfl);clear hd hz hf hw;simp only [RL, e0];go_simp;exact hK _ _ rfl SR
       ·refine RW 2 16 true hz (hw 2 rfl) ?_;have e0 := EV 20 (.pointer (some (ad.add (k * 4)))) (hw 6 rfl);have m0 := MC d0 hs tv;have m1 := MC d1 hs tv;clear hd hz hf hw;simp only [RL, e0];go_simp;exact hK _ _ rfl SR
       ·refine RW 2 16 true hz (hw 2 rfl) ?_;have e0 := EP 3 w.heap.size 0 (hf 3 rfl);clear hd hz hf hw;simp only [RL, e0];go_simp;exact hK _ _ rfl SR
       ·refine RW 2 16 true hz (hw 2 rfl) ?_;have e0 := EP 22 w.heap.size 0 (hw 8 rfl);have m0 := MC t0 hs tv;have m1 := MC t1 hs tv;clear hd hz hf hw;simp only [RL, e0];go_simp;exact hK _ _ rfl SR
       ·refine RW 2 16 true hz (hw 2 rfl) ?_;have e0 := EV 21 (stV x.at_) (hw 7 rfl);have e1 := EV 23 (stV a.at_) (hw 9 rfl);clear hd hz hf hw;simp only [RL, e0, e1];go_simp;refine (gl _).mono ?_;rintro e wd ⟨rfl, hs2⟩;exact hK _ _ rfl hs2
       ·refine RW 2 16 true hz (hw 2 rfl) ?_;have e0 := EV 24 (.bool true) (hw 10 rfl);clear hd hz hf hw;simp only [RL, e0];go_simp;exact hK _ _ rfl SR
       ·have e0 := EV 16 (.bool true) (hw 2 rfl);have e1 := EV 25 (.bool false) (hw 11 rfl);clear hd hz hf hw;simp only [if_true, RL, e0, e1];go_simp;exact hK _ _ rfl SR
      ·intro wR hsR;simp only [Qk, Act.put, LP];have hown1 := Hown.out.keepAll hsR;have hrow1 := Hrow.out.keep hsR tv;have hS1 := HS.out.trans hsR;have d0 := hsR.cell (p := ad.add (k * 4)) tv d0;have d1 := hsR.cell (p := ⟨(ad.add (k * 4)).block, (ad.add (k * 4)).off + 1, none⟩) tv d1;have d2 := hsR.cell (p := ⟨(ad.add (k * 4)).block, (ad.add (k * 4)).off + 2, none⟩) tv d2;have d3 := hsR.cell (p := ⟨(ad.add (k * 4)).block, (ad.add (k * 4)).off + 3, none⟩) tv d3;have t0 : wR.cell? ⟨w.heap.size, 0, none⟩ = some (.int .i64 a.at_.wall) := hrow1.cell 0;have t1 : wR.cell? ⟨w.heap.size, 1, none⟩ = some (.int .i64 a.at_.tie) := hrow1.cell 1;have t2 : wR.cell? ⟨w.heap.size, 2, none⟩ = some (.bool a.drop) := hrow1.cell 2;have t3 : wR.cell? ⟨w.heap.size, 3, none⟩ = some (.string (str a.data)) := hrow1.cell 3;have hsz7 : w.heap.size + 1 ≤ wR.heap.size := Nat.le_trans hsz hsR.size;have Hown := LH hown1;have Hrow := LH hrow1;have HS := LH hS1;clear hown1 hrow1 hS1 hsR;go_wp2;go_quiet (fail);rename_i nq;go_wp2_with (at_builtin; refine Qf ?_);unfold Hid;have hsq := (Qa.refl (fun _ => True) wR).drewN nq;refine QT ZD Qq QV (w := wR.drewN nq) (c := x) (B := w.heap.size + 1) rfl (.tmp 39) (.tmp 44) rfl rfl rfl (by first | rfl | simp) (Hown.out.keepAll hsq) (Nat.le_trans hsz7 hsq.size) (by have := Hlen.out; simp at this; simp only [maxLen]; first | omega | (simp; omega)) (by have := Hlen.out; simp at this; first | omega | (simp; omega)) ?_;intro v9 w9 k1 k2;have K1 := LH k1;have K2 := LH k2;have Hsq := LH hsq;clear k1 k2 hsq;go_wp2;go_roundw
       case rel =>
        have hs9 : Qa (fun q => q < w.heap.size + 1) wR w9 := (Hsq.out.mono fun _ _ _ => tv).trans K2.out;exact ⟨k + 1, false, by go_num, rfl, by omega, ⟨_, K1.out, Heq.out, by have := Hlen.out; simp only [List.length_append, List.length_singleton] at this ⊢; omega⟩, Hrow.out.keep hs9 (by omega), Nat.le_trans hsz7 hs9.size, HS.out.trans' hs9 fun q hq _ => by omega⟩
       case measure => simp [intOf]; omega
     ·have hne : ¬ x.at_ = a.at_ := fun h => ht (by rw [h])
      have heq' : O ++ [x] ++ Xi a false (l.drop (k + 1)) = Xi a false l := by
       rw [← heq];simp [Xi, hlb, hne]
      have Heq := LH heq';have Hlen0 := LH (show O.length ≤ k + 1 from by have := hlen; simp at this; omega);have Hlen := LH (show O.length ≤ k + (false : Bool).toNat from by have := hlen; simp at this ⊢; omega);have y1 : (x.at_.tie != a.at_.tie) = true := by simpa using ht
      have y2 : (x.at_.tie == a.at_.tie) = false := by simpa using ht
      have Hw := LH hw;clear heq heq' hlen hne ht hw;rw [hlb] at gl;clear hlb;go_wp2;refine Qi (vs := [(.bool false), (.bool true), (.bool true), (.slice (some ad) l.length cp), (.int .i64 k), (.pointer (some (ad.add (k * 4)))), (.pointer (some (ad.add (k * 4)))), (stV x.at_), (.pointer (some ⟨w.heap.size, 0, none⟩)), (stV a.at_), (.bool true), (.bool false), (.bool false)]) (by kernel_rfl) (by kernel_rfl) rfl rfl ?_ ?_
      ·refine ⟨?_, ?_, ?_, ?_, ?_, ?_, ?_, ?_, ?_, ?_, ?_, ?_, ?_, tv⟩
       all_goals intro ac wc hs hd hz hf hw K hK
       ·have e0 := EV 6 (.bool false) (hf 6 rfl);clear hd hz hf hw;simp only [if_true, RL, e0];go_simp;exact hK _ _ rfl SR
       ·have e0 := EV 14 (.bool false) (hw 0 rfl);clear hd hz hf hw;simp only [if_true, RL, e0];go_simp;exact hK _ _ rfl SR
       ·have e0 := EV 15 (.bool true) (hw 1 rfl);clear hd hz hf hw;simp only [if_true, RL, e0];go_simp;exact hK _ _ rfl SR
       ·refine RW 2 16 true hz (hw 2 rfl) ?_;have e0 := EV 0 (.slice (some ad) l.length cp) (hf 0 rfl);clear hd hz hf hw;simp only [RL, e0];go_simp;exact hK _ _ rfl SR
       ·refine RW 2 16 true hz (hw 2 rfl) ?_;have e0 := EV 7 (.int .i64 k) (hf 7 rfl);clear hd hz hf hw;simp only [RL, e0];go_simp;exact hK _ _ rfl SR
       ·refine RW 2 16 true hz (hw 2 rfl) ?_;have e0 := EV 17 (.slice (some ad) l.length cp) (hw 3 rfl);have e1 := EV 18 (.int .i64 k) (hw 4 rfl);clear hd hz hf hw;simp only [RL, e0, e1];go_simp;exact hK _ _ rfl SR
       ·refine RW 2 16 true hz (hw 2 rfl) ?_;have e0 := EV 19 (.pointer (some (ad.add (k * 4)))) (hw 5 rfl);clear hd hz hf hw;simp only [RL, e0];go_simp;exact hK _ _ rfl SR
       ·refine RW 2 16 true hz (hw 2 rfl) ?_;have e0 := EV 20 (.pointer (some (ad.add (k * 4)))) (hw 6 rfl);have m0 := MC d0 hs tv;have m1 := MC d1 hs tv;clear hd hz hf hw;simp only [RL, e0];go_simp;exact hK _ _ rfl SR
       ·refine RW 2 16 true hz (hw 2 rfl) ?_;have e0 := EP 3 w.heap.size 0 (hf 3 rfl);clear hd hz hf hw;simp only [RL, e0];go_simp;exact hK _ _ rfl SR
       ·refine RW 2 16 true hz (hw 2 rfl) ?_;have e0 := EP 22 w.heap.size 0 (hw 8 rfl);have m0 := MC t0 hs tv;have m1 := MC t1 hs tv;clear hd hz hf hw;simp only [RL, e0];go_simp;exact hK _ _ rfl SR
       ·refine RW 2 16 true hz (hw 2 rfl) ?_;have e0 := EV 21 (stV x.at_) (hw 7 rfl);have e1 := EV 23 (stV a.at_) (hw 9 rfl);clear hd hz hf hw;simp only [RL, e0, e1];go_simp;refine (gl _).mono ?_;rintro e wd ⟨rfl, hs2⟩;exact hK _ _ rfl hs2
       ·refine RW 2 16 true hz (hw 2 rfl) ?_;have e0 := EV 24 (.bool true) (hw 10 rfl);clear hd hz hf hw;simp only [RL, e0];go_simp;exact hK _ _ rfl SR
       ·have e0 := EV 16 (.bool true) (hw 2 rfl);have e1 := EV 25 (.bool false) (hw 11 rfl);clear hd hz hf hw;simp only [if_true, RL, e0, e1];go_simp;exact hK _ _ rfl SR
      ·intro wR hsR;simp only [Qk, Act.put, LP];have hown1 := Hown.out.keepAll hsR;have hrow1 := Hrow.out.keep hsR tv;have hS1 := HS.out.trans hsR;have d0 := hsR.cell (p := ad.add (k * 4)) tv d0;have d1 := hsR.cell (p := ⟨(ad.add (k * 4)).block, (ad.add (k * 4)).off + 1, none⟩) tv d1;have d2 := hsR.cell (p := ⟨(ad.add (k * 4)).block, (ad.add (k * 4)).off + 2, none⟩) tv d2;have d3 := hsR.cell (p := ⟨(ad.add (k * 4)).block, (ad.add (k * 4)).off + 3, none⟩) tv d3;have t0 : wR.cell? ⟨w.heap.size, 0, none⟩ = some (.int .i64 a.at_.wall) := hrow1.cell 0;have t1 : wR.cell? ⟨w.heap.size, 1, none⟩ = some (.int .i64 a.at_.tie) := hrow1.cell 1;have t2 : wR.cell? ⟨w.heap.size, 2, none⟩ = some (.bool a.drop) := hrow1.cell 2;have t3 : wR.cell? ⟨w.heap.size, 3, none⟩ = some (.string (str a.data)) := hrow1.cell 3;have hsz7 : w.heap.size + 1 ≤ wR.heap.size := Nat.le_trans hsz hsR.size;have Hown := LH hown1;have Hrow := LH hrow1;have HS := LH hS1;clear hown1 hrow1 hS1 hsR;rw [Hw.out] at d0;go_wp2;go_quiet (fail);rename_i nq;go_wp2_with (at_builtin; refine Qf ?_);unfold Hid;have hsq := (Qa.refl (fun _ => True) wR).drewN nq;refine QT ZD Qq QV (w := wR.drewN nq) (c := ⟨⟨a.at_.wall, x.at_.tie⟩, x.drop, x.data⟩) (B := w.heap.size + 1) rfl (.tmp 39) (.tmp 44) rfl rfl rfl (by first | rfl | simp) (Hown.out.keepAll hsq) (Nat.le_trans hsz7 hsq.size) (by have := Hlen.out; simp at this; simp only [maxLen]; first | omega | (simp; omega)) (by have := Hlen.out; simp at this; first | omega | (simp; omega)) ?_;intro v9 w9 k1 k2;rw [show (⟨⟨a.at_.wall, x.at_.tie⟩, x.drop, x.data⟩ : Ver) = x from by rw [← Hw.out]] at k1;have K1 := LH k1;have K2 := LH k2;have Hsq := LH hsq;clear k1 k2 hsq;go_wp2;go_roundw
       case rel =>
        have hs9 : Qa (fun q => q < w.heap.size + 1) wR w9 := (Hsq.out.mono fun _ _ _ => tv).trans K2.out;exact ⟨k + 1, false, by go_num, rfl, by omega, ⟨_, K1.out, Heq.out, by have := Hlen.out; simp only [List.length_append, List.length_singleton] at this ⊢; omega⟩, Hrow.out.keep hs9 (by omega), Nat.le_trans hsz7 hs9.size, HS.out.trans' hs9 fun q hq _ => by omega⟩
       case measure => simp [intOf]; omega
   ·cases hlb : QG x.at_ a.at_
    ·rcases hkd with ⟨-, he⟩ | ⟨-, hw⟩ | ⟨-, hw, ht⟩
     ·have heq' : O ++ Xi a true (l.drop (k + 1)) = Xi a false l := by
       rw [← heq];simp [Xi, hlb, he, ZA]
      have Heq := LH heq';have Hlen0 := LH (show O.length ≤ k + 1 from by have := hlen; simp at this; omega);have Hlen := LH (show O.length ≤ k + (true : Bool).toNat from by have := hlen; simp at this ⊢; omega);rw [hlb] at gl;have He := LH he;clear he heq heq' hlen;clear hlb;go_wp2;refine Qi (vs := [(.bool true), (.bool false), (.bool false), undef, undef, undef, undef, undef, undef, undef, undef, undef, (.bool false)]) (by kernel_rfl) (by kernel_rfl) rfl rfl ?_ ?_
      ·refine ⟨?_, ?_, ?_, ?_, ?_, ?_, ?_, ?_, ?_, ?_, ?_, ?_, ?_, tv⟩
       all_goals intro ac wc hs hd hz hf hw K hK
       ·have e0 := EV 6 (.bool true) (hf 6 rfl);clear hd hz hf hw;simp only [if_true, RL, e0];go_simp;exact hK _ _ rfl SR
       ·have e0 := EV 14 (.bool true) (hw 0 rfl);clear hd hz hf hw;simp only [if_true, RL, e0];go_simp;exact hK _ _ rfl SR
       ·have e0 := EV 15 (.bool false) (hw 1 rfl);clear hd hz hf hw;simp only [if_true, RL, e0];go_simp;exact hK _ _ rfl SR
       ·refine SW 2 16 false hz (hw 2 rfl) ?_;exact hK _ _ rfl SR
       ·refine SW 2 16 false hz (hw 2 rfl) ?_;exact hK _ _ rfl SR
       ·refine SW 2 16 false hz (hw 2 rfl) ?_;exact hK _ _ rfl SR
       ·refine SW 2 16 false hz (hw 2 rfl) ?_;exact hK _ _ rfl SR
       ·refine SW 2 16 false hz (hw 2 rfl) ?_;exact hK _ _ rfl SR
       ·refine SW 2 16 false hz (hw 2 rfl) ?_;exact hK _ _ rfl SR
       ·refine SW 2 16 false hz (hw 2 rfl) ?_;exact hK _ _ rfl SR
       ·refine SW 2 16 false hz (hw 2 rfl) ?_;exact hK _ _ rfl SR
       ·refine SW 2 16 false hz (hw 2 rfl) ?_;exact hK _ _ rfl SR
       ·have e0 := EV 16 (.bool false) (hw 2 rfl);have e1 := EV 25 undef (hw 11 rfl);clear hd hz hf hw;simp only [if_true, RL, e0, e1];go_simp;exact hK _ _ rfl SR
      ·intro wR hsR;simp only [Qk, Act.put, LP];have hown1 := Hown.out.keepAll hsR;have hrow1 := Hrow.out.keep hsR tv;have hS1 := HS.out.trans hsR;have d0 := hsR.cell (p := ad.add (k * 4)) tv d0;have d1 := hsR.cell (p := ⟨(ad.add (k * 4)).block, (ad.add (k * 4)).off + 1, none⟩) tv d1;have d2 := hsR.cell (p := ⟨(ad.add (k * 4)).block, (ad.add (k * 4)).off + 2, none⟩) tv d2;have d3 := hsR.cell (p := ⟨(ad.add (k * 4)).block, (ad.add (k * 4)).off + 3, none⟩) tv d3;have t0 : wR.cell? ⟨w.heap.size, 0, none⟩ = some (.int .i64 a.at_.wall) := hrow1.cell 0;have t1 : wR.cell? ⟨w.heap.size, 1, none⟩ = some (.int .i64 a.at_.tie) := hrow1.cell 1;have t2 : wR.cell? ⟨w.heap.size, 2, none⟩ = some (.bool a.drop) := hrow1.cell 2;have t3 : wR.cell? ⟨w.heap.size, 3, none⟩ = some (.string (str a.data)) := hrow1.cell 3;have hsz7 : w.heap.size + 1 ≤ wR.heap.size := Nat.le_trans hsz hsR.size;have Hown := LH hown1;have Hrow := LH hrow1;have HS := LH hS1;clear hown1 hrow1 hS1 hsR;rw [He.out] at d0 d1;go_wp2;go_quiet (fail);rename_i nq;go_wp2;go_roundw
       case rel =>
        have hsq := (Qa.refl (fun _ => True) wR).drewN nq;exact ⟨k + 1, true, by go_num, rfl, by omega, ⟨_, Hown.out.keepAll hsq, Heq.out, by have := Hlen.out; omega⟩, Hrow.out.keep hsq tv, Nat.le_trans hsz7 hsq.size, HS.out.trans hsq⟩
       case measure => simp [intOf]; omega
     ·have hne : ¬ x.at_ = a.at_ := fun h => hw (by rw [h])
      have heq' : O ++ [x] ++ Xi a true (l.drop (k + 1)) = Xi a false l := by
       rw [← heq];simp [Xi, hlb, hne]
      have Heq := LH heq';have Hlen0 := LH (show O.length ≤ k + 1 from by have := hlen; simp at this; omega);have Hlen := LH (show O.length ≤ k + (true : Bool).toNat from by have := hlen; simp at this ⊢; omega);have y1 : (x.at_.wall != a.at_.wall) = true := by simpa using hw
      have y2 : (x.at_.wall == a.at_.wall) = false := by simpa using hw
      clear heq heq' hlen hne hw;rw [hlb] at gl;clear hlb;go_wp2;refine Qi (vs := [(.bool true), (.bool false), (.bool false), undef, undef, undef, undef, undef, undef, undef, undef, undef, (.bool false)]) (by kernel_rfl) (by kernel_rfl) rfl rfl ?_ ?_
      ·refine ⟨?_, ?_, ?_, ?_, ?_, ?_, ?_, ?_, ?_, ?_, ?_, ?_, ?_, tv⟩
       all_goals intro ac wc hs hd hz hf hw K hK
       ·have e0 := EV 6 (.bool true) (hf 6 rfl);clear hd hz hf hw;simp only [if_true, RL, e0];go_simp;exact hK _ _ rfl SR
       ·have e0 := EV 14 (.bool true) (hw 0 rfl);clear hd hz hf hw;simp only [if_true, RL, e0];go_simp;exact hK _ _ rfl SR
       ·have e0 := EV 15 (.bool false) (hw 1 rfl);clear hd hz hf hw;simp only [if_true, RL, e0];go_simp;exact hK _ _ rfl SR
       ·refine SW 2 16 false hz (hw 2 rfl) ?_;exact hK _ _ rfl SR
       ·refine SW 2 16 false hz (hw 2 rfl) ?_;exact hK _ _ rfl SR
       ·refine SW 2 16 false hz (hw 2 rfl) ?_;exact hK _ _ rfl SR
       ·refine SW 2 16 false hz (hw 2 rfl) ?_;exact hK _ _ rfl SR
       ·refine SW 2 16 false hz (hw 2 rfl) ?_;exact hK _ _ rfl SR
       ·refine SW 2 16 false hz (hw 2 rfl) ?_;exact hK _ _ rfl SR
       ·refine SW 2 16 false hz (hw 2 rfl) ?_;exact hK _ _ rfl SR
       ·refine SW 2 16 false hz (hw 2 rfl) ?_;exact hK _ _ rfl SR
       ·refine SW 2 16 false hz (hw 2 rfl) ?_;exact hK _ _ rfl SR
       ·have e0 := EV 16 (.bool false) (hw 2 rfl);have e1 := EV 25 undef (hw 11 rfl);clear hd hz hf hw;simp only [if_true, RL, e0, e1];go_simp;exact hK _ _ rfl SR
      ·intro wR hsR;simp only [Qk, Act.put, LP];have hown1 := Hown.out.keepAll hsR;have hrow1 := Hrow.out.keep hsR tv;have hS1 := HS.out.trans hsR;have d0 := hsR.cell (p := ad.add (k * 4)) tv d0;have d1 := hsR.cell (p := ⟨(ad.add (k * 4)).block, (ad.add (k * 4)).off + 1, none⟩) tv d1;have d2 := hsR.cell (p := ⟨(ad.add (k * 4)).block, (ad.add (k * 4)).off + 2, none⟩) tv d2;have d3 := hsR.cell (p := ⟨(ad.add (k * 4)).block, (ad.add (k * 4)).off + 3, none⟩) tv d3;have t0 : wR.cell? ⟨w.heap.size, 0, none⟩ = some (.int .i64 a.at_.wall) := hrow1.cell 0;have t1 : wR.cell? ⟨w.heap.size, 1, none⟩ = some (.int .i64 a.at_.tie) := hrow1.cell 1;have t2 : wR.cell? ⟨w.heap.size, 2, none⟩ = some (.bool a.drop) := hrow1.cell 2;have t3 : wR.cell? ⟨w.heap.size, 3, none⟩ = some (.string (str a.data)) := hrow1.cell 3;have hsz7 : w.heap.size + 1 ≤ wR.heap.size := Nat.le_trans hsz hsR.size;have Hown := LH hown1;have Hrow := LH hrow1;have HS := LH hS1;clear hown1 hrow1 hS1 hsR;go_wp2;go_quiet (fail);rename_i nq;go_wp2_with (at_builtin; refine Qf ?_);unfold Hid;have hsq := (Qa.refl (fun _ => True) wR).drewN nq;refine QT ZD Qq QV (w := wR.drewN nq) (c := x) (B := w.heap.size + 1) rfl (.tmp 39) (.tmp 44) rfl rfl rfl (by first | rfl | simp) (Hown.out.keepAll hsq) (Nat.le_trans hsz7 hsq.size) (by have := Hlen.out; simp at this; simp only [maxLen]; first | omega | (simp; omega)) (by have := Hlen.out; simp at this; first | omega | (simp; omega)) ?_;intro v9 w9 k1 k2;have K1 := LH k1;have K2 := LH k2;have Hsq := LH hsq;clear k1 k2 hsq;go_wp2;go_roundw
       case rel =>
        have hs9 : Qa (fun q => q < w.heap.size + 1) wR w9 := (Hsq.out.mono fun _ _ _ => tv).trans K2.out;exact ⟨k + 1, true, by go_num, rfl, by omega, ⟨_, K1.out, Heq.out, by have := Hlen.out; simp only [List.length_append, List.length_singleton] at this ⊢; omega⟩, Hrow.out.keep hs9 (by omega), Nat.le_trans hsz7 hs9.size, HS.out.trans' hs9 fun q hq _ => by omega⟩
       case measure => simp [intOf]; omega
     ·have hne : ¬ x.at_ = a.at_ := fun h => ht (by rw [h])
      have heq' : O ++ [x] ++ Xi a true (l.drop (k + 1)) = Xi a false l := by
       rw [← heq];simp [Xi, hlb, hne]
      have Heq := LH heq';have Hlen0 := LH (show O.length ≤ k + 1 from by have := hlen; simp at this; omega);have Hlen := LH (show O.length ≤ k + (true : Bool).toNat from by have := hlen; simp at this ⊢; omega);have y1 : (x.at_.tie != a.at_.tie) = true := by simpa using ht
      have y2 : (x.at_.tie == a.at_.tie) = false := by simpa using ht
      have Hw := LH hw;clear heq heq' hlen hne ht hw;rw [hlb] at gl;clear hlb;go_wp2;refine Qi (vs := [(.bool true), (.bool false), (.bool false), undef, undef, undef, undef, undef, undef, undef, undef, undef, (.bool false)]) (by kernel_rfl) (by kernel_rfl) rfl rfl ?_ ?_
      ·refine ⟨?_, ?_, ?_, ?_, ?_, ?_, ?_, ?_, ?_, ?_, ?_, ?_, ?_, tv⟩
       all_goals intro ac wc hs hd hz hf hw K hK
       ·have e0 := EV 6 (.bool true) (hf 6 rfl);clear hd hz hf hw;simp only [if_true, RL, e0];go_simp;exact hK _ _ rfl SR
       ·have e0 := EV 14 (.bool true) (hw 0 rfl);clear hd hz hf hw;simp only [if_true, RL, e0];go_simp;exact hK _ _ rfl SR
       ·have e0 := EV 15 (.bool false) (hw 1 rfl);clear hd hz hf hw;simp only [if_true, RL, e0];go_simp;exact hK _ _ rfl SR
       ·refine SW 2 16 false hz (hw 2 rfl) ?_;exact hK _ _ rfl SR
       ·refine SW 2 16 false hz (hw 2 rfl) ?_;exact hK _ _ rfl SR
       ·refine SW 2 16 false hz (hw 2 rfl) ?_;exact hK _ _ rfl SR
       ·refine SW 2 16 false hz (hw 2 rfl) ?_;exact hK _ _ rfl SR
       ·refine SW 2 16 false hz (hw 2 rfl) ?_;exact hK _ _ rfl SR
       ·refine SW 2 16 false hz (hw 2 rfl) ?_;exact hK _ _ rfl SR
       ·refine SW 2 16 false hz (hw 2 rfl) ?_;exact hK _ _ rfl SR
       ·refine SW 2 16 false hz (hw 2 rfl) ?_;exact hK _ _ rfl SR
       ·refine SW 2 16 false hz (hw 2 rfl) ?_;exact hK _ _ rfl SR
       ·have e0 := EV 16 (.bool false) (hw 2 rfl);have e1 := EV 25 undef (hw 11 rfl);clear hd hz hf hw;simp only [if_true, RL, e0, e1];go_simp;exact hK _ _ rfl SR
      ·intro wR hsR;simp only [Qk, Act.put, LP];have hown1 := Hown.out.keepAll hsR;have hrow1 := Hrow.out.keep hsR tv;have hS1 := HS.out.trans hsR;have d0 := hsR.cell (p := ad.add (k * 4)) tv d0;have d1 := hsR.cell (p := ⟨(ad.add (k * 4)).block, (ad.add (k * 4)).off + 1, none⟩) tv d1;have d2 := hsR.cell (p := ⟨(ad.add (k * 4)).block, (ad.add (k * 4)).off + 2, none⟩) tv d2;have d3 := hsR.cell (p := ⟨(ad.add (k * 4)).block, (ad.add (k * 4)).off + 3, none⟩) tv d3;have t0 : wR.cell? ⟨w.heap.size, 0, none⟩ = some (.int .i64 a.at_.wall) := hrow1.cell 0;have t1 : wR.cell? ⟨w.heap.size, 1, none⟩ = some (.int .i64 a.at_.tie) := hrow1.cell 1;have t2 : wR.cell? ⟨w.heap.size, 2, none⟩ = some (.bool a.drop) := hrow1.cell 2;have t3 : wR.cell? ⟨w.heap.size, 3, none⟩ = some (.string (str a.data)) := hrow1.cell 3;have hsz7 : w.heap.size + 1 ≤ wR.heap.size := Nat.le_trans hsz hsR.size;have Hown := LH hown1;have Hrow := LH hrow1;have HS := LH hS1;clear hown1 hrow1 hS1 hsR;rw [Hw.out] at d0;go_wp2;go_quiet (fail);rename_i nq;go_wp2_with (at_builtin; refine Qf ?_);unfold Hid;have hsq := (Qa.refl (fun _ => True) wR).drewN nq;refine QT ZD Qq QV (w := wR.drewN nq) (c := ⟨⟨a.at_.wall, x.at_.tie⟩, x.drop, x.data⟩) (B := w.heap.size + 1) rfl (.tmp 39) (.tmp 44) rfl rfl rfl (by first | rfl | simp) (Hown.out.keepAll hsq) (Nat.le_trans hsz7 hsq.size) (by have := Hlen.out; simp at this; simp only [maxLen]; first | omega | (simp; omega)) (by have := Hlen.out; simp at this; first | omega | (simp; omega)) ?_;intro v9 w9 k1 k2;rw [show (⟨⟨a.at_.wall, x.at_.tie⟩, x.drop, x.data⟩ : Ver) = x from by rw [← Hw.out]] at k1;have K1 := LH k1;have K2 := LH k2;have Hsq := LH hsq;clear k1 k2 hsq;go_wp2;go_roundw
       case rel =>
        have hs9 : Qa (fun q => q < w.heap.size + 1) wR w9 := (Hsq.out.mono fun _ _ _ => tv).trans K2.out;exact ⟨k + 1, true, by go_num, rfl, by omega, ⟨_, K1.out, Heq.out, by have := Hlen.out; simp only [List.length_append, List.length_singleton] at this ⊢; omega⟩, Hrow.out.keep hs9 (by omega), Nat.le_trans hsz7 hs9.size, HS.out.trans' hs9 fun q hq _ => by omega⟩
       case measure => simp [intOf]; omega
    ·rcases hkd with ⟨-, he⟩ | ⟨-, hw⟩ | ⟨-, hw, ht⟩
     ·rw [he, ZA] at hlb;cases hlb
     ·have hne : ¬ x.at_ = a.at_ := fun h => hw (by rw [h])
      have heq' : O ++ [x] ++ Xi a true (l.drop (k + 1)) = Xi a false l := by
       rw [← heq];simp [Xi, hlb, hne]
      have Heq := LH heq';have Hlen0 := LH (show O.length ≤ k + 1 from by have := hlen; simp at this; omega);have Hlen := LH (show O.length ≤ k + (true : Bool).toNat from by have := hlen; simp at this ⊢; omega);have y1 : (x.at_.wall != a.at_.wall) = true := by simpa using hw
      have y2 : (x.at_.wall == a.at_.wall) = false := by simpa using hw
      clear heq heq' hlen hne hw;rw [hlb] at gl;clear hlb;go_wp2;refine Qi (vs := [(.bool true), (.bool false), (.bool false), undef, undef, undef, undef, undef, undef, undef, undef, undef, (.bool false)]) (by kernel_rfl) (by kernel_rfl) rfl rfl ?_ ?_
      ·refine ⟨?_, ?_, ?_, ?_, ?_, ?_, ?_, ?_, ?_, ?_, ?_, ?_, ?_, tv⟩
       all_goals intro ac wc hs hd hz hf hw K hK
       ·have e0 := EV 6 (.bool true) (hf 6 rfl);clear hd hz hf hw;simp only [if_true, RL, e0];go_simp;exact hK _ _ rfl SR
       ·have e0 := EV 14 (.bool true) (hw 0 rfl);clear hd hz hf hw;simp only [if_true, RL, e0];go_simp;exact hK _ _ rfl SR
       ·have e0 := EV 15 (.bool false) (hw 1 rfl);clear hd hz hf hw;simp only [if_true, RL, e0];go_simp;exact hK _ _ rfl SR
       ·refine SW 2 16 false hz (hw 2 rfl) ?_;exact hK _ _ rfl SR
       ·refine SW 2 16 false hz (hw 2 rfl) ?_;exact hK _ _ rfl SR
       ·refine SW 2 16 false hz (hw 2 rfl) ?_;exact hK _ _ rfl SR
       ·refine SW 2 16 false hz (hw 2 rfl) ?_;exact hK _ _ rfl SR
       ·refine SW 2 16 false hz (hw 2 rfl) ?_;exact hK _ _ rfl SR
       ·refine SW 2 16 false hz (hw 2 rfl) ?_;exact hK _ _ rfl SR
       ·refine SW 2 16 false hz (hw 2 rfl) ?_;exact hK _ _ rfl SR
       ·refine SW 2 16 false hz (hw 2 rfl) ?_;exact hK _ _ rfl SR
       ·refine SW 2 16 false hz (hw 2 rfl) ?_;exact hK _ _ rfl SR
       ·have e0 := EV 16 (.bool false) (hw 2 rfl);have e1 := EV 25 undef (hw 11 rfl);clear hd hz hf hw;simp only [if_true, RL, e0, e1];go_simp;exact hK _ _ rfl SR
      ·intro wR hsR;simp only [Qk, Act.put, LP];have hown1 := Hown.out.keepAll hsR;have hrow1 := Hrow.out.keep hsR tv;have hS1 := HS.out.trans hsR;have d0 := hsR.cell (p := ad.add (k * 4)) tv d0;have d1 := hsR.cell (p := ⟨(ad.add (k * 4)).block, (ad.add (k * 4)).off + 1, none⟩) tv d1;have d2 := hsR.cell (p := ⟨(ad.add (k * 4)).block, (ad.add (k * 4)).off + 2, none⟩) tv d2;have d3 := hsR.cell (p := ⟨(ad.add (k * 4)).block, (ad.add (k * 4)).off + 3, none⟩) tv d3;have t0 : wR.cell? ⟨w.heap.size, 0, none⟩ = some (.int .i64 a.at_.wall) := hrow1.cell 0;have t1 : wR.cell? ⟨w.heap.size, 1, none⟩ = some (.int .i64 a.at_.tie) := hrow1.cell 1;have t2 : wR.cell? ⟨w.heap.size, 2, none⟩ = some (.bool a.drop) := hrow1.cell 2;have t3 : wR.cell? ⟨w.heap.size, 3, none⟩ = some (.string (str a.data)) := hrow1.cell 3;have hsz7 : w.heap.size + 1 ≤ wR.heap.size := Nat.le_trans hsz hsR.size;have Hown := LH hown1;have Hrow := LH hrow1;have HS := LH hS1;clear hown1 hrow1 hS1 hsR;go_wp2;go_quiet (fail);rename_i nq;go_wp2_with (at_builtin; refine Qf ?_);unfold Hid;have hsq := (Qa.refl (fun _ => True) wR).drewN nq;refine QT ZD Qq QV (w := wR.drewN nq) (c := x) (B := w.heap.size + 1) rfl (.tmp 39) (.tmp 44) rfl rfl rfl (by first | rfl | simp) (Hown.out.keepAll hsq) (Nat.le_trans hsz7 hsq.size) (by have := Hlen.out; simp at this; simp only [maxLen]; first | omega | (simp; omega)) (by have := Hlen.out; simp at this; first | omega | (simp; omega)) ?_;intro v9 w9 k1 k2;have K1 := LH k1;have K2 := LH k2;have Hsq := LH hsq;clear k1 k2 hsq;go_wp2;go_roundw
       case rel =>
        have hs9 : Qa (fun q => q < w.heap.size + 1) wR w9 := (Hsq.out.mono fun _ _ _ => tv).trans K2.out;exact ⟨k + 1, true, by go_num, rfl, by omega, ⟨_, K1.out, Heq.out, by have := Hlen.out; simp only [List.length_append, List.length_singleton] at this ⊢; omega⟩, Hrow.out.keep hs9 (by omega), Nat.le_trans hsz7 hs9.size, HS.out.trans' hs9 fun q hq _ => by omega⟩
       case measure => simp [intOf]; omega
     ·have hne : ¬ x.at_ = a.at_ := fun h => ht (by rw [h])
      have heq' : O ++ [x] ++ Xi a true (l.drop (k + 1)) = Xi a false l := by
       rw [← heq];simp [Xi, hlb, hne]
      have Heq := LH heq';have Hlen0 := LH (show O.length ≤ k + 1 from by have := hlen; simp at this; omega);have Hlen := LH (show O.length ≤ k + (true : Bool).toNat from by have := hlen; simp at this ⊢; omega);have y1 : (x.at_.tie != a.at_.tie) = true := by simpa using ht
      have y2 : (x.at_.tie == a.at_.tie) = false := by simpa using ht
      have Hw := LH hw;clear heq heq' hlen hne ht hw;rw [hlb] at gl;clear hlb;go_wp2;refine Qi (vs := [(.bool true), (.bool false), (.bool false), undef, undef, undef, undef, undef, undef, undef, undef, undef, (.bool false)]) (by kernel_rfl) (by kernel_rfl) rfl rfl ?_ ?_
      ·refine ⟨?_, ?_, ?_, ?_, ?_, ?_, ?_, ?_, ?_, ?_, ?_, ?_, ?_, tv⟩
       all_goals intro ac wc hs hd hz hf hw K hK
       ·have e0 := EV 6 (.bool true) (hf 6 rfl);clear hd hz hf hw;simp only [if_true, RL, e0];go_simp;exact hK _ _ rfl SR
       ·have e0 := EV 14 (.bool true) (hw 0 rfl);clear hd hz hf hw;simp only [if_true, RL, e0];go_simp;exact hK _ _ rfl SR
       ·have e0 := EV 15 (.bool false) (hw 1 rfl);clear hd hz hf hw;simp only [if_true, RL, e0];go_simp;exact hK _ _ rfl SR
       ·refine SW 2 16 false hz (hw 2 rfl) ?_;exact hK _ _ rfl SR
       ·refine SW 2 16 false hz (hw 2 rfl) ?_;exact hK _ _ rfl SR
       ·refine SW 2 16 false hz (hw 2 rfl) ?_;exact hK _ _ rfl SR
       ·refine SW 2 16 false hz (hw 2 rfl) ?_;exact hK _ _ rfl SR
       ·refine SW 2 16 false hz (hw 2 rfl) ?_;exact hK _ _ rfl SR
       ·refine SW 2 16 false hz (hw 2 rfl) ?_;exact hK _ _ rfl SR
       ·refine SW 2 16 false hz (hw 2 rfl) ?_;exact hK _ _ rfl SR
       ·refine SW 2 16 false hz (hw 2 rfl) ?_;exact hK _ _ rfl SR
       ·refine SW 2 16 false hz (hw 2 rfl) ?_;exact hK _ _ rfl SR
       ·have e0 := EV 16 (.bool false) (hw 2 rfl);have e1 := EV 25 undef (hw 11 rfl);clear hd hz hf hw;simp only [if_true, RL, e0, e1];go_simp;exact hK _ _ rfl SR
      ·intro wR hsR;simp only [Qk, Act.put, LP];have hown1 := Hown.out.keepAll hsR;have hrow1 := Hrow.out.keep hsR tv;have hS1 := HS.out.trans hsR;have d0 := hsR.cell (p := ad.add (k * 4)) tv d0;have d1 := hsR.cell (p := ⟨(ad.add (k * 4)).block, (ad.add (k * 4)).off + 1, none⟩) tv d1;have d2 := hsR.cell (p := ⟨(ad.add (k * 4)).block, (ad.add (k * 4)).off + 2, none⟩) tv d2;have d3 := hsR.cell (p := ⟨(ad.add (k * 4)).block, (ad.add (k * 4)).off + 3, none⟩) tv d3;have t0 : wR.cell? ⟨w.heap.size, 0, none⟩ = some (.int .i64 a.at_.wall) := hrow1.cell 0;have t1 : wR.cell? ⟨w.heap.size, 1, none⟩ = some (.int .i64 a.at_.tie) := hrow1.cell 1;have t2 : wR.cell? ⟨w.heap.size, 2, none⟩ = some (.bool a.drop) := hrow1.cell 2;have t3 : wR.cell? ⟨w.heap.size, 3, none⟩ = some (.string (str a.data)) := hrow1.cell 3;have hsz7 : w.heap.size + 1 ≤ wR.heap.size := Nat.le_trans hsz hsR.size;have Hown := LH hown1;have Hrow := LH hrow1;have HS := LH hS1;clear hown1 hrow1 hS1 hsR;rw [Hw.out] at d0;go_wp2;go_quiet (fail);rename_i nq;go_wp2_with (at_builtin; refine Qf ?_);unfold Hid;have hsq := (Qa.refl (fun _ => True) wR).drewN nq;refine QT ZD Qq QV (w := wR.drewN nq) (c := ⟨⟨a.at_.wall, x.at_.tie⟩, x.drop, x.data⟩) (B := w.heap.size + 1) rfl (.tmp 39) (.tmp 44) rfl rfl rfl (by first | rfl | simp) (Hown.out.keepAll hsq) (Nat.le_trans hsz7 hsq.size) (by have := Hlen.out; simp at this; simp only [maxLen]; first | omega | (simp; omega)) (by have := Hlen.out; simp at this; first | omega | (simp; omega)) ?_;intro v9 w9 k1 k2;rw [show (⟨⟨a.at_.wall, x.at_.tie⟩, x.drop, x.data⟩ : Ver) = x from by rw [← Hw.out]] at k1;have K1 := LH k1;have K2 := LH k2;have Hsq := LH hsq;clear k1 k2 hsq;go_wp2;go_roundw
       case rel =>
        have hs9 : Qa (fun q => q < w.heap.size + 1) wR w9 := (Hsq.out.mono fun _ _ _ => tv).trans K2.out;exact ⟨k + 1, true, by go_num, rfl, by omega, ⟨_, K1.out, Heq.out, by have := Hlen.out; simp only [List.length_append, List.length_singleton] at this ⊢; omega⟩, Hrow.out.keep hs9 (by omega), Nat.le_trans hsz7 hs9.size, HS.out.trans' hs9 fun q hq _ => by omega⟩
       case measure => simp [intOf]; omega
  ·obtain rfl : k = l.length := by omega
   rw [List.drop_length] at Heq;cases bb
   ·clear hS;go_wp2_with (at_builtin; refine Qf ?_);unfold Hid;refine QT ZD Qq QV (w := wr) (c := a) (B := w.heap.size + 1) rfl (.tmp 48) (.tmp 50) rfl rfl rfl (by first | rfl | simp) Hown.out hsz (by simp at hlen; simp only [maxLen]; omega) (by simp at hlen; omega) ?_;intro v6 w6 k1 k2;have K1 := LH k1;have K2 := LH k2;clear k1 k2;go_wp2;go_ret;refine ⟨_, rfl, ?_, HS.out.trans' K2.out fun q hq _ => by omega⟩;have e : O ++ [a] = X9 l a := by rw [← HK.out, ← Heq.out]; simp [Xi]
    rw [← e];exact K1.out.lower (by omega)
   ·clear hS;go_wp2;go_ret;refine ⟨_, rfl, ?_, HS.out⟩;have e : O = X9 l a := by rw [← HK.out, ← Heq.out]; simp [Xi]
    rw [← e];exact Hown.out.lower (by omega)
def Yk (w : World) (B Bv : Nat) (v : Value) (cs : List Cel) : Prop :=
 ∃ us : List Value, us.length = cs.length ∧ Qg Qj 12 64 w B v (us.zip cs) ∧ ∀ i (h : i < cs.length) (h' : i < us.length), X5 Qz 4 69 w (fun k => Bv ≤ k) us[i] cs[i].vers
section
variable {w w' : World} {B Bv : Nat} {v : Value} {cs : List Cel}
theorem Yk.nil (w : World) (B Bv : Nat) : Yk w B Bv (.slice none 0 0) [] := ⟨[], rfl, Qg.nil _ _, fun i h => absurd h (Nat.not_lt_zero _)⟩
theorem Yk.keepAll (h : Yk w B Bv v cs) (hs : Qa (fun _ => True) w w') : Yk w' B Bv v cs := by
 obtain ⟨us, h1, h2, h3⟩ := h;exact ⟨us, h1, h2.keepAll hs, fun i a b => (h3 i a b).keepAll hs⟩
theorem Yk.form3 (h : Yk w B Bv v cs) : ∃ A n c, v = .slice A n c ∧ n ≤ c ∧ c ≤ maxLen := by
 obtain ⟨us, h1, h2, _⟩ := h;obtain ⟨A, c, e1, e2, e3⟩ := h2.form;exact ⟨A, _, c, e1, e2, e3⟩
theorem Yk.own {b : Nat} (h : Yk w B Bv v cs) (h1 : b ≤ B) (h2 : b ≤ Bv) : QY w b v cs := by
 obtain ⟨us, e1, e2, e3⟩ := h;exact ⟨us, e1, e2.lower h1, fun i a c => (e3 i a c).mono fun k _ hk => Nat.le_trans h2 hk⟩
end
theorem Vh {w : World} {ops : Array Oper} {rest : List Oper} {o : Oper} {a : Act} {Q : Exit → Act → World → Prop} (hgd : o.guard = none) (s x : Operand)
  (ho : o.op = .call { callee := .builtin .append, args := #[s, x], argTypes := #[33, 33] }) {B Bv : Nat} {v : Value} {cs : List Cel} {c : Cel} {A : Option Addr} {n cp : Nat}
  (hs : a.eval s = v) {g : Nat} (hx : a.eval x = .slice (some ⟨g, 0, none⟩) 1 1) (hg : g = w.heap.size) (hown : Yk w B Bv v cs) (hu : X5 Qz 4 69 w (fun k => Bv ≤ k) (.slice A n cp) c.vers) (hB : B ≤ w.heap.size) (hlen : cs.length ≤ 1000000)
  (hK : ∀ v' w', Yk w' B Bv v' (cs ++ [c]) → Qa (fun k => k < B) w w' → wpList Try.prog ops Q rest (a.put o.dst v') w') : wpList Try.prog ops Q (o :: rest) a (w.alloc (.cells (Qj (.slice A n cp, c)).toArray 64)) := by
 subst hg;obtain ⟨us, u1, u2, u3⟩ := hown;have hul : (us.zip cs).length = cs.length := by simp [u1]
 have hs1 : Qa (fun _ => True) w (w.alloc (.cells (Qj (.slice A n cp, c)).toArray 64)) := SR.alloc _;have hrow := Row.new w 64 (Qj (.slice A n cp, c));have hsl := hrow.sl (size := 12) (off := 0) (n := 1) (by rw [Qp]; omega);rw [List.drop_zero, List.take_of_length_le (by rw [Qp]; omega)] at hsl;refine Zu ZI _ hgd s x ho B v (us.zip cs).length ((us.zip cs).flatMap Qj) hs (u2.keepAll hs1) _ _ 1 1 (Qj (.slice A n cp, c)) hx hsl (Xy c) (by rw [hul]; simp only [maxLen]; omega) (by rw [hul]; omega) (by simp; omega) ?_;intro v' w' h2 h3 h4;refine hK v' w' ⟨us ++ [.slice A n cp], by simp [u1], ?_, ?_⟩ ((hs1.mono fun _ _ _ => tv).trans (h3.mono fun k _ hk e' => by have := (u2.keepAll hs1).lt_ e'.symm; omega))
 ·unfold Qg;rw [List.zip_append u1, List.length_append, List.flatMap_append];simpa using h2
 ·intro i hi hi';have ho1 := u2.keepAll hs1;by_cases hlt : i < cs.length
  ·rw [List.getElem_append_left (by omega), List.getElem_append_left hlt];exact ((u3 i hlt (by omega)).keepAll hs1).keepOwn ho1 (by decide) h3
  ·have e : i = cs.length := by simp at hi; omega
   subst e;rw [List.getElem_append_right (by omega), List.getElem_append_right (by omega)];simp only [u1, Nat.sub_self, List.getElem_singleton];exact (hu.keepAll hs1).keepOwn ho1 (by decide) h3
structure JB (f : Cel → List Cel) (cs : List Cel) (B Bv p : Nat) (ty : TypeId) (xs : List Value) (k : Nat) (l : Value) (w wr : World) : Prop where
 le : k ≤ cs.length
 own : Yk wr B Bv l ((cs.take k).flatMap f)
 row : Row wr p ty xs
 lt : p < B
 size : B ≤ wr.heap.size
 same : Qa (fun _ => True) w wr
section
variable {f : Cel → List Cel} {cs : List Cel} {B Bv p : Nat} {ty : TypeId} {xs : List Value} {k : Nat} {l : Value} {w wr W : World}
theorem JB.next (h : JB f cs B Bv p ty xs k l w wr) (hk : k < cs.length) (hf : f cs[k] = []) (hS : Qa (fun _ => True) wr W) : JB f cs B Bv p ty xs (k + 1) l w W :=
 ⟨hk, by rw [J1 hk, hf, List.append_nil]; exact h.own.keepAll hS, h.row.keep hS tv, h.lt, Nat.le_trans h.size hS.size, h.same.trans hS⟩
theorem JB.more {l' : Value} {c : Cel} (h : JB f cs B Bv p ty xs k l w wr) (hk : k < cs.length) (hf : f cs[k] = [c]) (ho : Yk W B Bv l' ((cs.take k).flatMap f ++ [c])) (hw : w.heap.size ≤ B) (hS : Qa (fun q => q < B) wr W) : JB f cs B Bv p ty xs (k + 1) l' w W :=
 ⟨hk, by rw [J1 hk, hf]; exact ho, h.row.keep hS h.lt, h.lt, Nat.le_trans h.size hS.size, h.same.trans' hS fun q hq _ => Nat.lt_of_lt_of_le hq hw⟩
theorem QI {w7 w0 : World} {ops : Array Oper} {rest : List Oper} {o : Oper} {a : Act} {Q : Exit → Act → World → Prop} (hgd : o.guard = none) (s x : Operand)
  (ho : o.op = .call { callee := .builtin .append, args := #[s, x], argTypes := #[33, 33] }) {v : Value} {c : Cel} {A : Option Addr} {n cp : Nat} {arr : Array Value}
  (hs : a.eval s = v) {g : Nat} (hx : a.eval x = .slice (some ⟨g, 0, none⟩) 1 1) (hg : g = W.heap.size) (harr : arr = (Qj (.slice A n cp, c)).toArray) (h : JB f cs B Bv p ty xs k v w0 wr) (hf1 : ∀ c, (f c).length ≤ 1) (hk : k < cs.length) (hf : f cs[k] = [c]) (hn : cs.length ≤ 100000) (hw : w0.heap.size ≤ B)
  {Sx : Nat → Prop} (hu : X5 Qz 4 69 w7 Sx (.slice A n cp) c.vers) (hSx : ∀ q, Sx q → Bv ≤ q) (hS7 : Qa Sx w7 W) (hS : Qa (fun _ => True) wr W)
  (hK : ∀ v' w', Hid (JB f cs B Bv p ty xs (k + 1) v' w0 w') → wpList Try.prog ops Q rest (a.put o.dst v') w') : wpList Try.prog ops Q (o :: rest) a (W.alloc (.cells arr 64)) := by
 subst harr;have hle := Je hf1 (cs.take k);rw [List.length_take] at hle;refine Vh (w := W) (c := c) (B := B) (Bv := Bv) hgd s x ho hs hx hg (h.own.keepAll hS) ((hu.keep hS7).mono fun q _ h => hSx q h) (Nat.le_trans h.size hS.size) (by omega) fun v' w' h1 h2 => hK v' w' (LH (h.more hk hf h1 hw ((hS.mono fun _ _ _ => tv).trans h2)))
end
theorem QY.cells12 {w : World} {B : Nat} {A : Option Addr} {n c : Nat} {cs : List Cel} (h : QY w B (.slice A n c) cs) {i : Nat} (hi : i < cs.length) : ∃ ad u, A = some ad ∧ B ≤ ad.block ∧ X5 Qz 4 69 w (fun k => B ≤ k) u cs[i].vers ∧
  w.cell? (ad.add (i * 12)) = some (.string (str cs[i].key)) ∧ w.cell? ⟨(ad.add (i * 12)).block, (ad.add (i * 12)).off + 1, none⟩ = some (u) ∧ w.cell? ⟨(ad.add (i * 12)).block, (ad.add (i * 12)).off + 2, none⟩ = some (.bool cs[i].locked) ∧ w.cell? ⟨(ad.add (i * 12)).block, (ad.add (i * 12)).off + 3, none⟩ = some (.int .i64 cs[i].lock.by_.node) ∧ w.cell? ⟨(ad.add (i * 12)).block, (ad.add (i * 12)).off + 4, none⟩ = some (.int .i64 cs[i].lock.by_.life) ∧ w.cell? ⟨(ad.add (i * 12)).block, (ad.add (i * 12)).off + 5, none⟩ = some (.int .i64 cs[i].lock.by_.seq) ∧ w.cell? ⟨(ad.add (i * 12)).block, (ad.add (i * 12)).off + 6, none⟩ = some (.int .i64 cs[i].lock.by_.attempt) ∧ w.cell? ⟨(ad.add (i * 12)).block, (ad.add (i * 12)).off + 7, none⟩ = some (.int .i64 cs[i].lock.home) ∧ w.cell? ⟨(ad.add (i * 12)).block, (ad.add (i * 12)).off + 8, none⟩ = some (.int .i64 cs[i].lock.at_.wall) ∧ w.cell? ⟨(ad.add (i * 12)).block, (ad.add (i * 12)).off + 9, none⟩ = some (.int .i64 cs[i].lock.at_.tie) ∧ w.cell? ⟨(ad.add (i * 12)).block, (ad.add (i * 12)).off + 10, none⟩ = some (.bool cs[i].lock.drop) ∧ w.cell? ⟨(ad.add (i * 12)).block, (ad.add (i * 12)).off + 11, none⟩ = some (.string (str cs[i].lock.data)) := by
 obtain ⟨us, h1, h2, h3⟩ := h;have e : (us.zip cs).length = cs.length := by simp [h1]
 obtain ⟨ad, c', a1, a2, a3, a4, a5⟩ := Qw.at_ (h2.wr.row Qp) Qp (i := i) (by omega);have e2 : (us.zip cs)[i]'(by omega) = (us[i]'(by omega), cs[i]) := by simp
 rw [e2] at a5;injection a1 with a1 _ _
 have key : ∀ j, 0 < j → j < 12 → w.cell? ⟨(ad.add (i * 12)).block, (ad.add (i * 12)).off + j, none⟩ = (Qj (us[i]'(by omega), cs[i]))[j]? := fun j h0 hj => by
  have := a5 j hj;rw [JK _ j h0] at this;exact this
 exact ⟨ad, us[i]'(by omega), a1, a4, h3 i hi (by omega), by have := a5 0 (by omega); rwa [add_zero] at this, key 1 (by omega) (by omega), key 2 (by omega) (by omega), key 3 (by omega) (by omega), key 4 (by omega) (by omega), key 5 (by omega) (by omega), key 6 (by omega) (by omega), key 7 (by omega) (by omega), key 8 (by omega) (by omega), key 9 (by omega) (by omega), key 10 (by omega) (by omega), key 11 (by omega) (by omega)⟩
set_option maxHeartbeats 4000000 in
theorem K3 (v : Value) (cs : List Cel) (b : QZ) (yes : Bool) (S : Nat → Prop) (w : World) (hv : QU w S v cs) (hn : cs.length ≤ 100000) (hn2 : ∀ c ∈ cs, c.vers.length ≤ 1000000) (hso : ∀ c ∈ cs, XU c.vers) :
  Calls Try.prog 61 #[v, QH b, .bool yes] w (KZ (Xz cs b yes) w) := by
 obtain ⟨A, cp, rfl, hc, hm⟩ := hv.form;have Hso := LH hso;have gc := Jg (.slice A cs.length cp) cs S (w.alloc (.cells (XM b).toArray 26)) (hv.keepAll (SR.alloc _)) hn hn2;have hrow0 := Row.new w 26 (XM b);have Hrow0 := LH hrow0;unfold maxLen at hm;have Hn2 := LH hn2;clear hv hrow0 hso hn2;go_enter Try.func61, Try.ntmps61;go_wp2_with (go_at_call 34; refine Qf ?_);unfold Hid;refine gc.mono ?_;rintro e w2 ⟨v2, rfl, hown2, hS2⟩;obtain ⟨A2, cp2, rfl, hc2, hm2⟩ := hown2.form;unfold maxLen at hm2;have hz2 : w.heap.size + 1 ≤ w2.heap.size := by have := hS2.size; rw [World.size_alloc] at this; exact this
 rw [World.size_alloc] at hown2
 have hrel0 : JB (Q7 b yes) cs w2.heap.size (w.heap.size + 1) w.heap.size 26 (XM b) 0 (.slice none 0 0) w2 w2 :=
  ⟨Nat.zero_le _, Yk.nil _ _ _, Hrow0.out.keep hS2 tv, by omega, Nat.le_refl _, Qa.refl _ _⟩
 have Hrel0 := LH hrel0;have hS02 : Qa (fun _ => True) w w2 := (SR.alloc _).trans hS2;have HS02 := LH hS02;have Hown2 := LH hown2;clear hrel0 hown2 hS2 gc hS02;go_wp2;go_loopw [7, 9, 10] (fun l i _ wr => ∃ k : Nat, i = .int .i64 k ∧ JB (Q7 b yes) cs w2.heap.size (w.heap.size + 1) w.heap.size 26 (XM b) k l w2 wr) (fun _ i _ _ => cs.length - (intOf i).toNat)
 case atStart => exact ⟨0, rfl, Hrel0.out⟩
 case round =>
  obtain ⟨k, rfl, hrel⟩ := hrel;have hk := hrel.le;have hS := hrel.same;have HS := LH hS;have hsz := hrel.row.lt;have hsz2 := hrel.size;obtain ⟨Al, nl, cl, rfl, hl1, hl2⟩ := hrel.own.form3;have Hrel := LH hrel;unfold maxLen at hl2;by_cases hlt : k < cs.length
  ·obtain ⟨ad, u, rfl, -, hvr, c0, c1, c2, c3, c4, c5, c6, c7, c8, c9, c10, c11⟩ := QY.cells12 (Hown2.out.keepAll hS) hlt
   obtain ⟨Au, cu, rfl, hq1, hq2⟩ : ∃ Aq cq, u = .slice Aq cs[k].vers.length cq ∧ cs[k].vers.length ≤ cq ∧ cq ≤ maxLen := by
    obtain ⟨Aq, cq, h1, h2, h3, _⟩ := hvr;exact ⟨Aq, cq, h1, h2, h3⟩
   unfold maxLen at hq2;have x1 : (0 : Int) ≤ (k : Int) := by omega
   have x2 : (k : Int) < (cs.length : Int) := by omega
   have hab := World.block_lt_of_cell? wr _ c0;have hcl := Hn2.out cs[k] (List.getElem_mem hlt);have hcs := Hso.out cs[k] (List.getElem_mem hlt);obtain ⟨c, hck⟩ : ∃ c, c = cs[k] := ⟨_, rfl⟩;rw [← hck] at c0 c1 c2 c3 c4 c5 c6 c7 c8 c9 c10 c11 hvr hcl hcs hq1;have Hck := LH hck;have Hcs := LH hcs;have Hvr := LH hvr;clear hvr hS hrel hcs hck;go_wp2_with (with_reducible refine QaO 2 rfl ?_);unfold Hid;have r1 := Row.new wr 64 (Qj (.slice Au c.vers.length cu, c));have hS7 := (Qa.refl (fun _ => True) wr).alloc (.cells (Qj (.slice Au c.vers.length cu, c)).toArray 64);have hvv := (Hvr.out.mono (S' := fun q => w.heap.size + 1 ≤ q ∧ q ≠ wr.heap.size) fun q hq h => ⟨h, by omega⟩).keepAll hS7;simp only [Qj, Qn, List.cons_append, List.nil_append] at r1 hS7 hvv;clear c0 c1 c2 c3 c4 c5 c6 c7 c8 c9 c10 c11;revert r1 hS7 hvv;generalize wr.alloc (.cells _ 64) = W7;intro r1 hS7 hvv;have z7 := r1.lt;obtain ⟨a0, a1, a2, a3, a4, a5, a6, a7, a8, a9, a10, a11, f0, f1, f2, f3, f4, f5, f6, f7, f8, f9, f10, f11⟩ := QD r1;have hrowb := Hrel.out.row.keep hS7 tv;have t0 : W7.cell? ⟨w.heap.size, 0, none⟩ = some (.int .i64 b.node) := hrowb.cell 0;have t1 : W7.cell? ⟨w.heap.size, 1, none⟩ = some (.int .i64 b.life) := hrowb.cell 1;have t2 : W7.cell? ⟨w.heap.size, 2, none⟩ = some (.int .i64 b.seq) := hrowb.cell 2;have t3 : W7.cell? ⟨w.heap.size, 3, none⟩ = some (.int .i64 b.attempt) := hrowb.cell 3;have HS7 := LH hS7;have Hv7 := LH hvv;have Hbox7 := LH r1;clear r1 hvv hS7 hrowb;cases hl : c.locked
   ·rw [hl] at a2;have hmb : Xb c b = false := by unfold Xb; rw [hl]; rfl
    by_cases hlen : c.vers.length = 0
    ·have hf : Q7 b yes cs[k] = [] := by rw [← Hck.out]; unfold Q7; rw [hmb]; simp [Qv, hl, List.length_eq_zero_iff.1 hlen]
     have Hf := LH hf;have e1 : (c.vers.length : Int) = 0 := by omega
     clear hf hmb hlen hl;go_wp2;go_roundw
     case rel =>
      refine ⟨k + 1, by go_num, Hrel.out.next hlt Hf.out (HS7.out.trans' (S' := fun q => q ≠ wr.heap.size) ?_ fun q hq _ => by omega)⟩
      repeat (refine Qa.setCell ?_ (fun _ h => h rfl) _)
      exact Qa.refl _ _
     case measure => simp [intOf]; omega
    ·have hf : Q7 b yes cs[k] = [c] := by
      rw [← Hck.out]; unfold Q7; rw [hmb];have hne : c.vers ≠ [] := fun h => hlen (by rw [h]; rfl)
      simp [Qv, hne]
     have Hf := LH hf;have e1 : (0 : Int) < (c.vers.length : Int) := by omega
     clear hf hmb hlen;go_wp2_with (at_builtin; refine Qf ?_);unfold Hid;refine QI (c := c) (B := w2.heap.size) (Bv := w.heap.size + 1) rfl (.tmp 58) (.tmp 60) rfl rfl rfl (by first | rfl | simp) (by simp [Qj, Qn, Lck.zero, str, hl]) Hrel.out (Xj b _) hlt Hf.out hn (by omega) Hv7.out (fun q h => h.1) ?_ ?_ ?_
     ·repeat (refine Qa.setCell ?_ (fun _ h => h.2 rfl) _)
      exact Qa.refl _ _
     ·refine HS7.out.trans' (S' := fun q => q ≠ wr.heap.size) ?_ fun q hq _ => by omega
      repeat (refine Qa.setCell ?_ (fun _ h => h rfl) _)
      exact Qa.refl _ _
     intro v' w9 Hrel9;go_wp2;go_roundw
     case rel => exact ⟨k + 1, by go_num, Hrel9.out⟩
     case measure => simp [intOf]; omega
   ·rw [hl] at a2;rcases YT c.lock.by_ b with he | ⟨he, h | ⟨h1, h⟩ | ⟨h1, h2, h⟩ | ⟨h1, h2, h3, h⟩⟩
    ·rw [← he] at t0 t1 t2 t3;have hmb : Xb c b = true := by unfold Xb; rw [hl, he]; simp
     cases yes
     ·go_wp2_with (with_reducible refine QC 50 rfl ?_);unfold Hid;clear a0 a1 a2 a3 a4 a5 a6 a7 a8 a9 a10 a11 f0 f1 f2 f3 f4 f5 f6 f7 f8 f9 f10 f11 t0 t1 t2 t3;rw [← JG];obtain ⟨r1, r2⟩ := J9 (b2 := .bool false) (b3 := .int .i64 0) (b4 := .int .i64 0) (b5 := .int .i64 0) (b6 := .int .i64 0) (b7 := .int .i64 0) (b8 := .int .i64 0) (b9 := .int .i64 0) (b10 := .bool false) (b11 := .string ⟨#[]⟩) Hbox7.out;revert r1 r2;generalize KI W7 wr.heap.size _ _ _ _ _ _ _ _ _ _ = W9;intro r1 r2;have hv9 := Hv7.out.keep (r2.mono fun q _ hq => hq.2);have hS9 : Qa (fun _ => True) wr W9 := HS7.out.trans' r2 fun j hj _ => by omega
      obtain ⟨a0, a1, a2, a3, a4, a5, a6, a7, a8, a9, a10, a11, -⟩ := QD r1;have HS7 := LH hS9;have Hv7 := LH hv9;clear r1 r2 hS9 hv9;by_cases hlen : c.vers.length = 0
      ·have hf : Q7 b false cs[k] = [] := by rw [← Hck.out]; unfold Q7; rw [hmb]; simp [Qv, X6, List.length_eq_zero_iff.1 hlen]
       have Hf := LH hf;have e1 : (c.vers.length : Int) = 0 := by omega
       clear hf hmb hlen hl he;go_wp2;go_roundw
       case rel =>
        refine ⟨k + 1, by go_num, Hrel.out.next hlt Hf.out (HS7.out.trans' (S' := fun q => q ≠ wr.heap.size) ?_ fun q hq _ => by omega)⟩
        repeat (refine Qa.setCell ?_ (fun _ h => h rfl) _)
        exact Qa.refl _ _
       case measure => simp [intOf]; omega
      ·have hf : Q7 b false cs[k] = [X6 false c] := by
        rw [← Hck.out]; unfold Q7; rw [hmb];have hne : c.vers ≠ [] := fun h => hlen (by rw [h]; rfl)
        simp [Qv, X6, hne]
       have Hf := LH hf;have e1 : (0 : Int) < (c.vers.length : Int) := by omega
       clear hf hmb hlen he;go_wp2_with (at_builtin; refine Qf ?_);unfold Hid;refine QI (c := X6 false c) (B := w2.heap.size) (Bv := w.heap.size + 1) rfl (.tmp 58) (.tmp 60) rfl rfl rfl (by first | rfl | simp) (by simp [Qj, Qn, Lck.zero, str, hl, X6]) Hrel.out (Xj b _) hlt Hf.out hn (by omega) Hv7.out (fun q h => h.1) ?_ ?_ ?_
       ·repeat (refine Qa.setCell ?_ (fun _ h => h.2 rfl) _)
        exact Qa.refl _ _
       ·refine HS7.out.trans' (S' := fun q => q ≠ wr.heap.size) ?_ fun q hq _ => by omega
        repeat (refine Qa.setCell ?_ (fun _ h => h rfl) _)
        exact Qa.refl _ _
       intro v' w9 Hrel9;go_wp2;go_roundw
       case rel => exact ⟨k + 1, by go_num, Hrel9.out⟩
       case measure => simp [intOf]; omega
     ·have hpl := Kj c.vers (ZU c)
      have hf : Q7 b true cs[k] = [X6 true c] := by
       rw [← Hck.out]; unfold Q7; rw [hmb];have hne : X9 c.vers (ZU c) ≠ [] := fun h => by rw [h] at hpl; simp at hpl
       simp [Qv, X6, hne]
      have Hf := LH hf;have e1 : (0 : Int) < ((X9 c.vers (ZU c)).length : Int) := by omega
      have gp := Vk (.slice Au c.vers.length cu) c.vers (ZU c) W7 ((Hv7.out.row Qq).mono (by omega) fun q hq _ => hq) Hcs.out hcl;unfold ZU at gp;clear hf hmb he hpl;go_wp2_with (go_at_call 90; refine Qf ?_);unfold Hid;refine gp.mono ?_;rintro e w8 ⟨v8, rfl, hown8, hS8⟩
      obtain ⟨A8, n8, c8, rfl, hn8⟩ : ∃ Aq nq cq, v8 = .slice Aq nq cq ∧ nq = (X9 c.vers (ZU c)).length := by
       obtain ⟨Aq, cq, h1, h2, h3⟩ := hown8.form;exact ⟨Aq, _, cq, h1, rfl⟩
      have hbox8 := Hbox7.out.keep hS8 tv;have hS10 : Qa (fun _ => True) wr w8 := HS7.out.trans hS8;have z8 := hbox8.lt;have g1 := hbox8.frozen 1;have b1 : w8.cell? ⟨wr.heap.size, 1, none⟩ = some (.slice Au c.vers.length cu) := hbox8.cell 1;have Hown8 := LH hown8.wr;have Hbox8 := LH hbox8;have HS8 := LH hS10;rw [← hn8] at e1;have Hn8 := LH hn8;clear hn8 hown8 hS8 hbox8 hS10 gp a0 a1 a2 a3 a4 a5 a6 a7 a8 a9 a10 a11 f0 f1 f2 f3 f4 f5 f6 f7 f8 f9 f10 f11;go_wp2_with (with_reducible refine QC 48 rfl ?_);unfold Hid;have r1 := Hbox8.out.set_ 1 (.slice A8 n8 c8);have r2 : Qa (fun q => q ≠ wr.heap.size) w8 (w8.setCell ⟨wr.heap.size, 1, none⟩ (.slice A8 n8 c8)) := SR.setCell (fun _ h => h rfl) _;revert r1 r2;generalize w8.setCell ⟨wr.heap.size, 1, none⟩ (.slice A8 n8 c8) = W8;intro r1 r2;simp only [List.set_cons_succ, List.set_cons_zero] at r1;have hv8 := (Hown8.out.mono (S' := fun q => w.heap.size + 1 ≤ q ∧ q ≠ wr.heap.size) fun q _ h => by omega).keep (r2.mono fun q _ hq => hq.2);have hS9 : Qa (fun _ => True) wr W8 := HS8.out.trans' r2 fun j hj _ => by omega
      obtain ⟨W7, rfl⟩ : ∃ W7, W7 = W8 := ⟨_, rfl⟩;obtain ⟨a0, a1, a2, a3, a4, a5, a6, a7, a8, a9, a10, a11, f0, f1, f2, f3, f4, f5, f6, f7, f8, f9, f10, f11⟩ := QD r1;have z7 := r1.lt;have HS7 := LH hS9;have Hv7 := LH hv8;have Hbox7 := LH r1;clear r1 r2 hS9 hv8 b1 g1;go_wp2_with (with_reducible refine QC 50 rfl ?_);unfold Hid;clear a0 a1 a2 a3 a4 a5 a6 a7 a8 a9 a10 a11 f0 f1 f2 f3 f4 f5 f6 f7 f8 f9 f10 f11;rw [← JG];obtain ⟨r1, r2⟩ := J9 (b2 := .bool false) (b3 := .int .i64 0) (b4 := .int .i64 0) (b5 := .int .i64 0) (b6 := .int .i64 0) (b7 := .int .i64 0) (b8 := .int .i64 0) (b9 := .int .i64 0) (b10 := .bool false) (b11 := .string ⟨#[]⟩) Hbox7.out;revert r1 r2;generalize KI W7 wr.heap.size _ _ _ _ _ _ _ _ _ _ = W9;intro r1 r2;have hv9 := Hv7.out.keep (r2.mono fun q _ hq => hq.2);have hS9 : Qa (fun _ => True) wr W9 := HS7.out.trans' r2 fun j hj _ => by omega
      obtain ⟨a0, a1, a2, a3, a4, a5, a6, a7, a8, a9, a10, a11, -⟩ := QD r1;have HS7 := LH hS9;have Hv7 := LH hv9;clear r1 r2 hS9 hv9;go_wp2_with (at_builtin; refine Qf ?_);unfold Hid;refine QI (c := X6 true c) (B := w2.heap.size) (Bv := w.heap.size + 1) rfl (.tmp 58) (.tmp 60) rfl rfl rfl (by first | rfl | simp) (by simp [Qj, Qn, Lck.zero, str, hl, X6, Hn8.out, ZU]) Hrel.out (Xj b _) hlt Hf.out hn (by omega) Hv7.out (fun q h => h.1) ?_ ?_ ?_
      ·repeat (refine Qa.setCell ?_ (fun _ h => h.2 rfl) _)
       exact Qa.refl _ _
      ·refine HS7.out.trans' (S' := fun q => q ≠ wr.heap.size) ?_ fun q hq _ => by omega
       repeat (refine Qa.setCell ?_ (fun _ h => h rfl) _)
       exact Qa.refl _ _
      intro v' w9 Hrel9;go_wp2;go_roundw
      case rel => exact ⟨k + 1, by go_num, Hrel9.out⟩
      case measure => simp [intOf]; omega
    ·have hf : Q7 b yes cs[k] = [c] := by rw [← Hck.out]; unfold Q7 Xb; rw [he]; simp [Qv, hl]
     have Hf := LH hf;have hb : (c.lock.by_.node == b.node) = false := by simpa using h
     clear hf he h;go_wp2_with (at_builtin; refine Qf ?_);unfold Hid;refine QI (c := c) (B := w2.heap.size) (Bv := w.heap.size + 1) rfl (.tmp 58) (.tmp 60) rfl rfl rfl (by first | rfl | simp) (by simp [Qj, Qn, Lck.zero, str, hl]) Hrel.out (Xj b _) hlt Hf.out hn (by omega) Hv7.out (fun q h => h.1) ?_ ?_ ?_
     ·repeat (refine Qa.setCell ?_ (fun _ h => h.2 rfl) _)
      exact Qa.refl _ _
     ·refine HS7.out.trans' (S' := fun q => q ≠ wr.heap.size) ?_ fun q hq _ => by omega
      repeat (refine Qa.setCell ?_ (fun _ h => h rfl) _)
      exact Qa.refl _ _
     intro v' w9 Hrel9;go_wp2;go_roundw
     case rel => exact ⟨k + 1, by go_num, Hrel9.out⟩
     case measure => simp [intOf]; omega
    ·have hf : Q7 b yes cs[k] = [c] := by rw [← Hck.out]; unfold Q7 Xb; rw [he]; simp [Qv, hl]
     have Hf := LH hf;have hb : (c.lock.by_.life == b.life) = false := by simpa using h
     clear hf he h;rw [h1] at a3;go_wp2_with (at_builtin; refine Qf ?_);unfold Hid;refine QI (c := c) (B := w2.heap.size) (Bv := w.heap.size + 1) rfl (.tmp 58) (.tmp 60) rfl rfl rfl (by first | rfl | simp) (by simp [Qj, Qn, Lck.zero, str, hl, h1]) Hrel.out (Xj b _) hlt Hf.out hn (by omega) Hv7.out (fun q h => h.1) ?_ ?_ ?_
     ·repeat (refine Qa.setCell ?_ (fun _ h => h.2 rfl) _)
      exact Qa.refl _ _
     ·refine HS7.out.trans' (S' := fun q => q ≠ wr.heap.size) ?_ fun q hq _ => by omega
      repeat (refine Qa.setCell ?_ (fun _ h => h rfl) _)
      exact Qa.refl _ _
     intro v' w9 Hrel9;go_wp2;go_roundw
     case rel => exact ⟨k + 1, by go_num, Hrel9.out⟩
     case measure => simp [intOf]; omega
    ·have hf : Q7 b yes cs[k] = [c] := by rw [← Hck.out]; unfold Q7 Xb; rw [he]; simp [Qv, hl]
     have Hf := LH hf;have hb : (c.lock.by_.seq == b.seq) = false := by simpa using h
     clear hf he h;rw [h1] at a3;rw [h2] at a4;go_wp2_with (at_builtin; refine Qf ?_);unfold Hid;refine QI (c := c) (B := w2.heap.size) (Bv := w.heap.size + 1) rfl (.tmp 58) (.tmp 60) rfl rfl rfl (by first | rfl | simp) (by simp [Qj, Qn, Lck.zero, str, hl, h1, h2]) Hrel.out (Xj b _) hlt Hf.out hn (by omega) Hv7.out (fun q h => h.1) ?_ ?_ ?_
     ·repeat (refine Qa.setCell ?_ (fun _ h => h.2 rfl) _)
      exact Qa.refl _ _
     ·refine HS7.out.trans' (S' := fun q => q ≠ wr.heap.size) ?_ fun q hq _ => by omega
      repeat (refine Qa.setCell ?_ (fun _ h => h rfl) _)
      exact Qa.refl _ _
     intro v' w9 Hrel9;go_wp2;go_roundw
     case rel => exact ⟨k + 1, by go_num, Hrel9.out⟩
     case measure => simp [intOf]; omega
    ·have hf : Q7 b yes cs[k] = [c] := by rw [← Hck.out]; unfold Q7 Xb; rw [he]; simp [Qv, hl]
     have Hf := LH hf;have hb : (c.lock.by_.attempt == b.attempt) = false := by simpa using h
     clear hf he h;rw [h1] at a3;rw [h2] at a4;rw [h3] at a5;go_wp2_with (at_builtin; refine Qf ?_);unfold Hid;refine QI (c := c) (B := w2.heap.size) (Bv := w.heap.size + 1) rfl (.tmp 58) (.tmp 60) rfl rfl rfl (by first | rfl | simp) (by simp [Qj, Qn, Lck.zero, str, hl, h1, h2, h3]) Hrel.out (Xj b _) hlt Hf.out hn (by omega) Hv7.out (fun q h => h.1) ?_ ?_ ?_
     ·repeat (refine Qa.setCell ?_ (fun _ h => h.2 rfl) _)
      exact Qa.refl _ _
     ·refine HS7.out.trans' (S' := fun q => q ≠ wr.heap.size) ?_ fun q hq _ => by omega
      repeat (refine Qa.setCell ?_ (fun _ h => h rfl) _)
      exact Qa.refl _ _
     intro v' w9 Hrel9;go_wp2;go_roundw
     case rel => exact ⟨k + 1, by go_num, Hrel9.out⟩
     case measure => simp [intOf]; omega
  ·obtain rfl : k = cs.length := by omega
   have hown := hrel.own;rw [List.take_length] at hown;have Hown := LH hown;clear hS hown hrel;go_wp2;go_ret;exact ⟨_, rfl, Hown.out.own (by omega) (by omega), HS02.out.trans HS.out⟩
theorem Zy {P : Program} {t e : TypeId} {size bytes : Nat} {z : Value} (T : SlT P t e size bytes z) {α : Type} {f : α → List Value} {S : Nat → Prop} {l : List α} {w : World} {ops : Array Oper} {rest : List Oper} {o : Oper} {a : Act} {Q : Exit → Act → World → Prop} (hgd : o.guard = none) (x b : Operand)
  (ho : o.op = .slice t x (some b) none none) {A : Option Addr} {n c i : Nat} {I : Int} (hx : a.eval x = .slice A n c) (hb : a.eval b = .int .i64 I) (hI : I = (i : Int)) (hf : ∀ x, (f x).length = size) (h : X5 f size e w S (.slice A n c) l) (hi : i ≤ l.length)
  (hK : ∀ A' n' c', n' = l.length - i → X5 f size e w S (.slice A' n' c') (l.drop i) → wpList P ops Q rest (a.put o.dst (.slice A' n' c')) w) : wpList P ops Q (o :: rest) a w := by
 obtain ⟨ti, h2, h3, h4, h5⟩ := info_parts T.info;subst hI
 have hn : n = l.length := by
  obtain ⟨A', c', h1, _⟩ := h;injection h1
 subst hn;have he : P.elem t = e := by simp [Program.elem, T.und]
 have hr : (Instr.slice t (.slice A l.length c) (some (.int .i64 (i : Int))) none none).run P w = .ok (.slice (if c = i then A else A.map (·.add (i * size))) (l.length - i) (c - i)) w := by
  rw [run_slice_l w t A l.length c (by rw [he]; exact T.und) .i64 (i : Int) (by omega) (by omega), he];simp [sizeOf, typeInfo, h2, h4, sliced, Result.andThen]
 have hk := hK _ _ _ rfl (h.cut hf hi);refine wpList_plain hgd fun K hK' => ?_
 have hr2 : (Instr.sliceAt t (.slice A l.length c) (some (.int .i64 (i : Int))) none none).run P w = .ok (.slice (if c = i then A else A.map (·.add (i * size))) (l.length - i) (c - i)) w := by
  rw [run_sliceAt_slice w t _ _ _ _ (by rw [he]; exact T.und)];exact hr
 unfold Oper.wp;simp only [execOp, ho, hx, hb, Option.map_some, Option.map_none, Sem.run_bind, Sem.run_pure, hr2, Result.andThen_ok];exact hK' _ _ hk
end Go.Proofs.Ytoldelocfmpccaa
