/-
  Words, plain models, laws and walks that the claims of this layer share (joined by shake.py). No condition.
-/
import Derived.Test.YtoldelocfmpccaaX4
set_option linter.unusedSimpArgs false
set_option linter.unusedVariables false
namespace Go.Proofs.Ytoldelocfmpccaa
open Go.RowKit
structure QaH (a : St) (l : List Ver) (j : Nat) (W wi : World) : Prop where
 le : j ≤ l.length
 low : ∀ q (h : q < l.length), q < j → QG a l[q].at_ = false
 same : Qa (fun _ => True) W wi
theorem Y7 {a : St} {l : List Ver} {j : Nat} (hs : XU l) (hj : j ≤ l.length) (low : ∀ q (h : q < l.length), q < j → QG a l[q].at_ = false) (hx : ∀ h : j < l.length, QG a l[j].at_ = true) : Xs l a = (j : Int) - 1 := by
 refine Qbl (by omega) (by omega) (fun h h0 => low _ _ (by omega)) fun k h hk => ?_
 rcases Nat.lt_or_ge j k with h1 | h1
 ·exact Z4 (hx (by omega)) (List.pairwise_iff_getElem.1 hs j k (by omega) h h1)
 ·obtain rfl : j = k := by omega
  exact hx h
theorem Y8 {a : St} {l : List Ver} (h : Xs l a = ((0 : Nat) : Int) - 1) : Y5 l a = 0 := by
 unfold Y5;rw [if_pos (by omega)]
theorem Kc {a : St} {l : List Ver} {i : Nat} (hi : i < l.length) (h : Xs l a = ((i + 1 : Nat) : Int) - 1) : Y5 l a = if l[i].drop then i + 1 else i := by
 unfold Y5;have e : (Xs l a).toNat = i := by omega
 rw [if_neg (by omega), e, List.getElem?_eq_getElem hi];simp
set_option maxRecDepth 100000 in
set_option maxHeartbeats 4000000 in
theorem UW (v : Value) (cs : List Cel) (a : St) (S : Nat → Prop) (w : World) (hv : QU w S v cs) (hn : cs.length ≤ 100000) (hn2 : ∀ c ∈ cs, c.vers.length ≤ 1000000) (hso : ∀ c ∈ cs, XU c.vers) :
  Calls Try.prog 62 #[v, stV a] w (KZ (XP cs a) w) := by
 obtain ⟨A, cp, rfl, hc, hm⟩ := hv.form;have Hso := LH hso;have gc := Jg (.slice A cs.length cp) cs S (w.alloc (.cells (QN a).toArray 28)) (hv.keepAll (SR.alloc _)) hn hn2;have hrow0 := Row.new w 28 (QN a);have Hrow0 := LH hrow0;unfold maxLen at hm;have Hn2 := LH hn2;clear hv hrow0 hso hn2;go_enter Try.func62, Try.ntmps62;go_wp2_with (go_at_call 34; refine Qf ?_);unfold Hid;refine gc.mono ?_;rintro e w2 ⟨v2, rfl, hown2, hS2⟩;obtain ⟨A2, cp2, rfl, hc2, hm2⟩ := hown2.form;unfold maxLen at hm2;have hz2 : w.heap.size + 1 ≤ w2.heap.size := by have := hS2.size; rw [World.size_alloc] at this; exact this
 rw [World.size_alloc] at hown2
 have hrel0 : JB (QL a) cs w2.heap.size (w.heap.size + 1) w.heap.size 28 (QN a) 0 (.slice none 0 0) w2 w2 :=
  ⟨Nat.zero_le _, Yk.nil _ _ _, Hrow0.out.keep hS2 tv, by omega, Nat.le_refl _, Qa.refl _ _⟩
 have Hrel0 := LH hrel0;have hS02 : Qa (fun _ => True) w w2 := (SR.alloc _).trans hS2;have HS02 := LH hS02;have Hown2 := LH hown2;clear hrel0 hown2 hS2 gc hS02;go_wp2;go_loopw [5, 7, 8, 9] (fun l i _ _ wr => ∃ k : Nat, i = .int .i64 k ∧ JB (QL a) cs w2.heap.size (w.heap.size + 1) w.heap.size 28 (QN a) k l w2 wr) (fun _ i _ _ _ => cs.length - (intOf i).toNat)
 case atStart => exact ⟨0, rfl, Hrel0.out⟩
 case round =>
  obtain ⟨k, rfl, hrel⟩ := hrel;obtain ⟨wo, rfl⟩ : ∃ wo : World, wo = wr := ⟨_, rfl⟩;have hk := hrel.le;have hS := hrel.same;have HS := LH hS;have hsz := hrel.row.lt;have hsz2 := hrel.size;obtain ⟨Al, nl, cl, rfl, hl1, hl2⟩ := hrel.own.form3;have Hrel := LH hrel;unfold maxLen at hl2;by_cases hlt : k < cs.length
  ·obtain ⟨ad, u, rfl, -, hvr, c0, c1, c2, c3, c4, c5, c6, c7, c8, c9, c10, c11⟩ := QY.cells12 (Hown2.out.keepAll hS) hlt
   obtain ⟨Au, cu, rfl, hq1, hq2⟩ : ∃ Aq cq, u = .slice Aq cs[k].vers.length cq ∧ cs[k].vers.length ≤ cq ∧ cq ≤ maxLen := by
    obtain ⟨Aq, cq, h1, h2, h3, _⟩ := hvr;exact ⟨Aq, cq, h1, h2, h3⟩
   unfold maxLen at hq2;have x1 : (0 : Int) ≤ (k : Int) := by omega
   have x2 : (k : Int) < (cs.length : Int) := by omega
   have hab := World.block_lt_of_cell? wo _ c0;have hcl := Hn2.out cs[k] (List.getElem_mem hlt);have hcs := Hso.out cs[k] (List.getElem_mem hlt);obtain ⟨c, hck⟩ : ∃ c, c = cs[k] := ⟨_, rfl⟩;rw [← hck] at c0 c1 c2 c3 c4 c5 c6 c7 c8 c9 c10 c11 hvr hcl hcs hq1;have Hck := LH hck;have Hcs := LH hcs;have Hvr := LH hvr;clear hvr hS hrel hcs hck;go_wp2;have r1 := Row.new wo 64 (Qj (.slice Au c.vers.length cu, c));have hS7 := (Qa.refl (fun _ => True) wo).alloc (.cells (Qj (.slice Au c.vers.length cu, c)).toArray 64);have hvv := (Hvr.out.mono (S' := fun q => w.heap.size + 1 ≤ q ∧ q ≠ wo.heap.size) fun q hq h => ⟨h, by omega⟩).keepAll hS7;simp only [Qj, Qn, List.cons_append, List.nil_append] at r1 hS7 hvv;clear c0 c1 c2 c3 c4 c5 c6 c7 c8 c9 c10 c11;revert r1 hS7 hvv;generalize wo.alloc (.cells _ 64) = W7;intro r1 hS7 hvv;have HS7 := LH hS7;have Hv7 := LH hvv;have Hbox7 := LH r1;have hin0 : QaH a c.vers 0 W7 W7 := ⟨Nat.zero_le _, fun q _ h => absurd h (Nat.not_lt_zero _), Qa.refl _ _⟩;have Hin0 := LH hin0;clear r1 hvv hS7 hin0;go_loopw [9] (fun kk wi => ∃ j : Nat, kk = .int .i64 j ∧ QaH a c.vers j W7 wi) (fun kk _ => c.vers.length - (intOf kk).toNat)
   case atStart => exact ⟨0, rfl, Hin0.out⟩
   case round =>
    obtain ⟨j, rfl, hj, hlow, hSi⟩ := hrel;have HSi := LH hSi;have Hlow := LH hlow;have hbox := Hbox7.out.keep hSi tv;have hrowb := Hrel.out.row.keep (HS7.out.trans hSi) tv;have a0 : wr.cell? ⟨wo.heap.size, 0, none⟩ = some (.string (str c.key)) := hbox.cell 0;have a1 : wr.cell? ⟨wo.heap.size, 1, none⟩ = some (.slice Au c.vers.length cu) := hbox.cell 1;have f1 := hbox.frozen 1;have zb := hbox.lt;have t0 : wr.cell? ⟨w.heap.size, 0, none⟩ = some (.int .i64 a.wall) := hrowb.cell 0;have t1 : wr.cell? ⟨w.heap.size, 1, none⟩ = some (.int .i64 a.tie) := hrowb.cell 1;clear hbox hrowb;by_cases hjl : j < c.vers.length
    ·obtain ⟨ad2, rfl, -, d0, d1, d2, d3⟩ := Zl.cells ((Hv7.out.keepAll hSi).row Qq) hjl;have x3 : (0 : Int) ≤ (j : Int) := by omega
     have x4 : (j : Int) < (c.vers.length : Int) := by omega
     obtain ⟨b, hb⟩ : ∃ b, b = c.vers[j].at_ := ⟨_, rfl⟩;rw [← hb] at d0 d1;have gl := fun W => X8 a b W
     cases hlb : QG a b
     ·rw [hlb] at gl
      have hlow' : ∀ q (h : q < c.vers.length), q < j + 1 → QG a c.vers[q].at_ = false := by
       intro q h hq;rcases Nat.lt_or_ge q j with h1 | h1
       ·exact hlow q h h1
       ·obtain rfl : q = j := by omega
        rw [← hb]; exact hlb
      have Hlow' := LH hlow';clear hlow hlow' hlb hb hSi;go_wp2;refine Qi (vs := [(.int .i64 j), (.pointer (some ⟨wo.heap.size, 1, none⟩)), (.slice (some ad2) c.vers.length cu), (.int .i64 c.vers.length), (.bool true), (.bool true), (stV a), (.pointer (some ⟨wo.heap.size, 1, none⟩)), (.slice (some ad2) c.vers.length cu), (.int .i64 j), (.pointer (some (ad2.add (j * 4)))), (.pointer (some (ad2.add (j * 4)))), (stV b), (.bool false), (.bool true), (.bool true)]) (by kernel_rfl) (by kernel_rfl) rfl rfl ?_ ?_
      ·refine ⟨?_, ?_, ?_, ?_, ?_, ?_, ?_, ?_, ?_, ?_, ?_, ?_, ?_, ?_, ?_, ?_, tv⟩
       all_goals intro ac wc hs hd hz hf hw K hK
       ·have e0 := EV 9 (.int .i64 j) (hf 9 rfl);clear hd hz hf hw;simp only [if_true, RL, e0];go_simp;exact hK _ _ rfl SR
       ·have e0 := EP 8 wo.heap.size 0 (hf 8 rfl);clear hd hz hf hw;simp only [if_true, RL, e0];go_simp;exact hK _ _ rfl SR
       ·have e0 := EP 23 wo.heap.size 1 (hw 1 rfl);have m0 := MC a1 hs tv;clear hd hz hf hw;simp only [if_true, RL, e0];go_simp;exact hK _ _ rfl SR
       ·have e0 := EV 24 (.slice (some ad2) c.vers.length cu) (hw 2 rfl);clear hd hz hf hw;simp only [if_true, RL, e0];go_simp;exact hK _ _ rfl SR
       ·have e0 := EV 22 (.int .i64 j) (hw 0 rfl);have e1 := EV 25 (.int .i64 c.vers.length) (hw 3 rfl);clear hd hz hf hw;simp only [if_true, RL, e0, e1];go_simp;exact hK _ _ rfl SR
       ·have e0 := EV 26 (.bool true) (hw 4 rfl);clear hd hz hf hw;simp only [if_true, RL, e0];go_simp;exact hK _ _ rfl SR
       ·refine RW 5 27 true hz (hw 5 rfl) ?_;have e0 := EP 3 w.heap.size 0 (hf 3 rfl);have m0 := MC t0 hs tv;have m1 := MC t1 hs tv;clear hd hz hf hw;simp only [RL, e0];go_simp;exact hK _ _ rfl SR
       ·refine RW 5 27 true hz (hw 5 rfl) ?_;have e0 := EP 8 wo.heap.size 0 (hf 8 rfl);clear hd hz hf hw;simp only [RL, e0];go_simp;exact hK _ _ rfl SR
       ·refine RW 5 27 true hz (hw 5 rfl) ?_;have e0 := EP 29 wo.heap.size 1 (hw 7 rfl);have m0 := MC a1 hs tv;clear hd hz hf hw;simp only [RL, e0];go_simp;exact hK _ _ rfl SR
       ·refine RW 5 27 true hz (hw 5 rfl) ?_;have e0 := EV 9 (.int .i64 j) (hf 9 rfl);clear hd hz hf hw;simp only [RL, e0];go_simp;exact hK _ _ rfl SR
       ·refine RW 5 27 true hz (hw 5 rfl) ?_;have e0 := EV 30 (.slice (some ad2) c.vers.length cu) (hw 8 rfl);have e1 := EV 31 (.int .i64 j) (hw 9 rfl);clear hd hz hf hw;simp only [RL, e0, e1];go_simp;exact hK _ _ rfl SR
       ·refine RW 5 27 true hz (hw 5 rfl) ?_;have e0 := EV 32 (.pointer (some (ad2.add (j * 4)))) (hw 10 rfl);clear hd hz hf hw;simp only [RL, e0];go_simp;exact hK _ _ rfl SR
       ·refine RW 5 27 true hz (hw 5 rfl) ?_;have e0 := EV 33 (.pointer (some (ad2.add (j * 4)))) (hw 11 rfl);have m0 := MC d0 hs tv;have m1 := MC d1 hs tv;clear hd hz hf hw;simp only [RL, e0];go_simp;exact hK _ _ rfl SR
       ·refine RW 5 27 true hz (hw 5 rfl) ?_;have e0 := EV 28 (stV a) (hw 6 rfl);have e1 := EV 34 (stV b) (hw 12 rfl);clear hd hz hf hw;simp only [RL, e0, e1];go_simp;refine (gl _).mono ?_;rintro e wd ⟨rfl, hs2⟩;exact hK _ _ rfl hs2
       ·refine RW 5 27 true hz (hw 5 rfl) ?_;have e0 := EV 35 (.bool false) (hw 13 rfl);clear hd hz hf hw;simp only [RL, e0];go_simp;exact hK _ _ rfl SR
       ·have e0 := EV 27 (.bool true) (hw 5 rfl);have e1 := EV 36 (.bool true) (hw 14 rfl);clear hd hz hf hw;simp only [if_true, RL, e0, e1];go_simp;exact hK _ _ rfl SR
      ·intro wR hsR;simp only [Qk, Act.put, LP];have hSR := HSi.out.trans hsR;have HSR := LH hSR;clear hSR hsR;go_wp2;go_roundw
       case rel => exact ⟨j + 1, by go_num, by omega, Hlow'.out, HSR.out⟩
       case measure => simp [intOf]; omega
     ·rw [hlb] at gl;have hlast := Y7 Hcs.out hj hlow fun _ => by rw [← hb]; exact hlb
      have Hlast := LH hlast;clear hlow hlast hlb hb hSi;go_wp2;refine Qi (vs := [(.int .i64 j), (.pointer (some ⟨wo.heap.size, 1, none⟩)), (.slice (some ad2) c.vers.length cu), (.int .i64 c.vers.length), (.bool true), (.bool true), (stV a), (.pointer (some ⟨wo.heap.size, 1, none⟩)), (.slice (some ad2) c.vers.length cu), (.int .i64 j), (.pointer (some (ad2.add (j * 4)))), (.pointer (some (ad2.add (j * 4)))), (stV b), (.bool true), (.bool false), (.bool false)]) (by kernel_rfl) (by kernel_rfl) rfl rfl ?_ ?_
      ·refine ⟨?_, ?_, ?_, ?_, ?_, ?_, ?_, ?_, ?_, ?_, ?_, ?_, ?_, ?_, ?_, ?_, tv⟩
       all_goals intro ac wc hs hd hz hf hw K hK
       ·have e0 := EV 9 (.int .i64 j) (hf 9 rfl);clear hd hz hf hw;simp only [if_true, RL, e0];go_simp;exact hK _ _ rfl SR
       ·have e0 := EP 8 wo.heap.size 0 (hf 8 rfl);clear hd hz hf hw;simp only [if_true, RL, e0];go_simp;exact hK _ _ rfl SR
       ·have e0 := EP 23 wo.heap.size 1 (hw 1 rfl);have m0 := MC a1 hs tv;clear hd hz hf hw;simp only [if_true, RL, e0];go_simp;exact hK _ _ rfl SR
       ·have e0 := EV 24 (.slice (some ad2) c.vers.length cu) (hw 2 rfl);clear hd hz hf hw;simp only [if_true, RL, e0];go_simp;exact hK _ _ rfl SR
       ·have e0 := EV 22 (.int .i64 j) (hw 0 rfl);have e1 := EV 25 (.int .i64 c.vers.length) (hw 3 rfl);clear hd hz hf hw;simp only [if_true, RL, e0, e1];go_simp;exact hK _ _ rfl SR
       ·have e0 := EV 26 (.bool true) (hw 4 rfl);clear hd hz hf hw;simp only [if_true, RL, e0];go_simp;exact hK _ _ rfl SR
       ·refine RW 5 27 true hz (hw 5 rfl) ?_;have e0 := EP 3 w.heap.size 0 (hf 3 rfl);have m0 := MC t0 hs tv;have m1 := MC t1 hs tv;clear hd hz hf hw;simp only [RL, e0];go_simp;exact hK _ _ rfl SR
       ·refine RW 5 27 true hz (hw 5 rfl) ?_;have e0 := EP 8 wo.heap.size 0 (hf 8 rfl);clear hd hz hf hw;simp only [RL, e0];go_simp;exact hK _ _ rfl SR
       ·refine RW 5 27 true hz (hw 5 rfl) ?_;have e0 := EP 29 wo.heap.size 1 (hw 7 rfl);have m0 := MC a1 hs tv;clear hd hz hf hw;simp only [RL, e0];go_simp;exact hK _ _ rfl SR
       ·refine RW 5 27 true hz (hw 5 rfl) ?_;have e0 := EV 9 (.int .i64 j) (hf 9 rfl);clear hd hz hf hw;simp only [RL, e0];go_simp;exact hK _ _ rfl SR
       ·refine RW 5 27 true hz (hw 5 rfl) ?_;have e0 := EV 30 (.slice (some ad2) c.vers.length cu) (hw 8 rfl);have e1 := EV 31 (.int .i64 j) (hw 9 rfl);clear hd hz hf hw;simp only [RL, e0, e1];go_simp;exact hK _ _ rfl SR
       ·refine RW 5 27 true hz (hw 5 rfl) ?_;have e0 := EV 32 (.pointer (some (ad2.add (j * 4)))) (hw 10 rfl);clear hd hz hf hw;simp only [RL, e0];go_simp;exact hK _ _ rfl SR
       ·refine RW 5 27 true hz (hw 5 rfl) ?_;have e0 := EV 33 (.pointer (some (ad2.add (j * 4)))) (hw 11 rfl);have m0 := MC d0 hs tv;have m1 := MC d1 hs tv;clear hd hz hf hw;simp only [RL, e0];go_simp;exact hK _ _ rfl SR
       ·refine RW 5 27 true hz (hw 5 rfl) ?_;have e0 := EV 28 (stV a) (hw 6 rfl);have e1 := EV 34 (stV b) (hw 12 rfl);clear hd hz hf hw;simp only [RL, e0, e1];go_simp;refine (gl _).mono ?_;rintro e wd ⟨rfl, hs2⟩;exact hK _ _ rfl hs2
       ·refine RW 5 27 true hz (hw 5 rfl) ?_;have e0 := EV 35 (.bool true) (hw 13 rfl);clear hd hz hf hw;simp only [RL, e0];go_simp;exact hK _ _ rfl SR
       ·have e0 := EV 27 (.bool true) (hw 5 rfl);have e1 := EV 36 (.bool false) (hw 14 rfl);clear hd hz hf hw;simp only [if_true, RL, e0, e1];go_simp;exact hK _ _ rfl SR
      ·intro wR hsR;simp only [Qk, Act.put, LP];have hSR := HSi.out.trans hsR;have hboxR := Hbox7.out.keep hSR tv;have hvR := Hv7.out.keepAll hSR;have hSoR := HS7.out.trans hSR;have hrowb := Hrel.out.row.keep hSoR tv;obtain ⟨-, a1, -, -, -, -, -, -, -, -, -, -, f0, f1, -⟩ := QD hboxR;have zb := hboxR.lt;have t0 : wR.cell? ⟨w.heap.size, 0, none⟩ = some (.int .i64 a.wall) := hrowb.cell 0;have t1 : wR.cell? ⟨w.heap.size, 1, none⟩ = some (.int .i64 a.tie) := hrowb.cell 1;have HSR := LH hSoR;have HboxR := LH hboxR;have HvR := LH hvR;have hlast := Hlast.out;clear hSR hboxR hvR hSoR hrowb d0 d1 d2 d3 hsR f0;rcases j with _ | i
       ·have hti := Y8 hlast;have q1 : (0 : Int) ≤ (c.vers.length : Int) := by omega
        clear hlast;have htv : X4 c.vers a = c.vers.drop (0) := by unfold X4; rw [hti]
        go_wp2_with (with_reducible refine QC 57 rfl ?_);unfold Hid;refine Zy ZD rfl (.tmp 55) (.tmp 56) rfl rfl rfl (by rfl) Qq HvR.out (by omega) ?_;intro A8 n8 c8 hn8 hcut;have Hn8 := LH hn8;have Hcut := LH hcut;clear hn8 hcut;go_wp2_with (with_reducible refine QC 59 rfl ?_);unfold Hid;have r1 := HboxR.out.set_ 1 (.slice A8 n8 c8);have r2 : Qa (fun q => q ≠ wo.heap.size) wR (wR.setCell ⟨wo.heap.size, 1, none⟩ (.slice A8 n8 c8)) := SR.setCell (fun _ h => h rfl) _;revert r1 r2;generalize wR.setCell ⟨wo.heap.size, 1, none⟩ (.slice A8 n8 c8) = W8;intro r1 r2;simp only [List.set_cons_succ, List.set_cons_zero] at r1;have hv8 := Hcut.out.keep (r2.mono fun q _ hq => hq.2);have hS8 : Qa (fun _ => True) wo W8 := HSR.out.trans' r2 fun j hj _ => by omega
        obtain ⟨a0, a1, a2, a3, a4, a5, a6, a7, a8, a9, a10, a11, -⟩ := QD r1;have z8 := r1.lt;have Hv8 := LH hv8;have HS8 := LH hS8;clear r1 r2 hv8 hS8 t0 t1 f1 zb;cases hl : c.locked
        ·rw [hl] at a2;by_cases h0 : n8 = 0
         ·have hf : QL a cs[k] = [] := by
           rw [← Hck.out]; unfold QL Qv; rw [htv, List.drop_eq_nil_of_le (by have := Hn8.out; omega)];simp [hl]
          have Hf := LH hf;have e1 : (n8 : Int) = 0 := by omega
          clear hf htv h0 hl;go_wp2;go_roundw
          case rel => exact ⟨k + 1, by go_num, Hrel.out.next hlt Hf.out HS8.out⟩
          case measure => simp [intOf]; omega
         ·have e1 : (0 : Int) < (n8 : Int) := by omega
          have hf : QL a cs[k] = [{ c with vers := c.vers.drop (0) }] := by
           rw [← Hck.out]; unfold QL Qv; rw [htv];rw [if_pos];simp only [hl, Bool.false_or, Bool.not_eq_true', List.isEmpty_eq_false_iff];intro e;have := congrArg List.length e;rw [List.length_drop] at this;have h8 := Hn8.out;simp only [List.length_nil] at this;omega
          have Hf := LH hf;clear hf htv;go_wp2_with (at_builtin; refine Qf ?_);unfold Hid;refine QI (c := { c with vers := c.vers.drop (0) }) (B := w2.heap.size) (Bv := w.heap.size + 1) rfl (.tmp 67) (.tmp 69) rfl rfl rfl (by first | rfl | simp) (by simp [Qj, Qn, hl]) Hrel.out (XD a) hlt Hf.out hn (by omega) Hv8.out (fun q h => h.1) SR HS8.out ?_;intro v' w9 Hrel9;go_wp2;go_roundw
          case rel => exact ⟨k + 1, by go_num, Hrel9.out⟩
          case measure => simp [intOf]; omega
        ·rw [hl] at a2
         have hf : QL a cs[k] = [{ c with vers := c.vers.drop (0) }] := by
          rw [← Hck.out]; unfold QL Qv; rw [htv];simp [hl]
         have Hf := LH hf;clear hf htv;go_wp2_with (at_builtin; refine Qf ?_);unfold Hid;refine QI (c := { c with vers := c.vers.drop (0) }) (B := w2.heap.size) (Bv := w.heap.size + 1) rfl (.tmp 67) (.tmp 69) rfl rfl rfl (by first | rfl | simp) (by simp [Qj, Qn, hl]) Hrel.out (XD a) hlt Hf.out hn (by omega) Hv8.out (fun q h => h.1) SR HS8.out ?_;intro v' w9 Hrel9;go_wp2;go_roundw
         case rel => exact ⟨k + 1, by go_num, Hrel9.out⟩
         case measure => simp [intOf]; omega
       ·have hi : i < c.vers.length := by omega
        have hti := Kc hi hlast;obtain ⟨adR, eR, -, -, -, dR, -⟩ := Zl.cells (HvR.out.row Qq) hi;have q1 : (0 : Int) < (i : Int) + 1 := by omega
        have q2 : (0 : Int) ≤ (i : Int) := by omega
        have q3 : (i : Int) < (c.vers.length : Int) := by omega
        have q4 : (0 : Int) ≤ (i : Int) + 1 := by omega
        have q5 : (i : Int) + 1 ≤ (c.vers.length : Int) := by omega
        injection eR with eR;subst eR;clear hlast;cases hd : c.vers[i].drop
        ·rw [hd] at dR hti;rw [if_neg (by simp)] at hti;clear hd;have htv : X4 c.vers a = c.vers.drop (i) := by unfold X4; rw [hti]
         go_wp2_with (with_reducible refine QC 57 rfl ?_);unfold Hid;refine Zy ZD rfl (.tmp 55) (.tmp 56) rfl rfl rfl (by first | rfl | simp | omega) Qq HvR.out (by omega) ?_;intro A8 n8 c8 hn8 hcut;have Hn8 := LH hn8;have Hcut := LH hcut;clear hn8 hcut;go_wp2_with (with_reducible refine QC 59 rfl ?_);unfold Hid;have r1 := HboxR.out.set_ 1 (.slice A8 n8 c8);have r2 : Qa (fun q => q ≠ wo.heap.size) wR (wR.setCell ⟨wo.heap.size, 1, none⟩ (.slice A8 n8 c8)) := SR.setCell (fun _ h => h rfl) _;revert r1 r2;generalize wR.setCell ⟨wo.heap.size, 1, none⟩ (.slice A8 n8 c8) = W8;intro r1 r2;simp only [List.set_cons_succ, List.set_cons_zero] at r1;have hv8 := Hcut.out.keep (r2.mono fun q _ hq => hq.2);have hS8 : Qa (fun _ => True) wo W8 := HSR.out.trans' r2 fun j hj _ => by omega
         obtain ⟨a0, a1, a2, a3, a4, a5, a6, a7, a8, a9, a10, a11, -⟩ := QD r1;have z8 := r1.lt;have Hv8 := LH hv8;have HS8 := LH hS8;clear r1 r2 hv8 hS8 t0 t1 f1 zb;cases hl : c.locked
         ·rw [hl] at a2;by_cases h0 : n8 = 0
          ·have hf : QL a cs[k] = [] := by
            rw [← Hck.out]; unfold QL Qv; rw [htv, List.drop_eq_nil_of_le (by have := Hn8.out; omega)];simp [hl]
           have Hf := LH hf;have e1 : (n8 : Int) = 0 := by omega
           clear hf htv h0 hl;go_wp2;go_roundw
           case rel => exact ⟨k + 1, by go_num, Hrel.out.next hlt Hf.out HS8.out⟩
           case measure => simp [intOf]; omega
          ·have e1 : (0 : Int) < (n8 : Int) := by omega
           have hf : QL a cs[k] = [{ c with vers := c.vers.drop (i) }] := by
            rw [← Hck.out]; unfold QL Qv; rw [htv];rw [if_pos];simp only [hl, Bool.false_or, Bool.not_eq_true', List.isEmpty_eq_false_iff];intro e;have := congrArg List.length e;rw [List.length_drop] at this;have h8 := Hn8.out;simp only [List.length_nil] at this;omega
           have Hf := LH hf;clear hf htv;go_wp2_with (at_builtin; refine Qf ?_);unfold Hid;refine QI (c := { c with vers := c.vers.drop (i) }) (B := w2.heap.size) (Bv := w.heap.size + 1) rfl (.tmp 67) (.tmp 69) rfl rfl rfl (by first | rfl | simp) (by simp [Qj, Qn, hl]) Hrel.out (XD a) hlt Hf.out hn (by omega) Hv8.out (fun q h => h.1) SR HS8.out ?_;intro v' w9 Hrel9;go_wp2;go_roundw
           case rel => exact ⟨k + 1, by go_num, Hrel9.out⟩
           case measure => simp [intOf]; omega
         ·rw [hl] at a2
          have hf : QL a cs[k] = [{ c with vers := c.vers.drop (i) }] := by
           rw [← Hck.out]; unfold QL Qv; rw [htv];simp [hl]
          have Hf := LH hf;clear hf htv;go_wp2_with (at_builtin; refine Qf ?_);unfold Hid;refine QI (c := { c with vers := c.vers.drop (i) }) (B := w2.heap.size) (Bv := w.heap.size + 1) rfl (.tmp 67) (.tmp 69) rfl rfl rfl (by first | rfl | simp) (by simp [Qj, Qn, hl]) Hrel.out (XD a) hlt Hf.out hn (by omega) Hv8.out (fun q h => h.1) SR HS8.out ?_;intro v' w9 Hrel9;go_wp2;go_roundw
          case rel => exact ⟨k + 1, by go_num, Hrel9.out⟩
          case measure => simp [intOf]; omega
        ·rw [hd] at dR hti;rw [if_pos rfl] at hti;clear hd;have htv : X4 c.vers a = c.vers.drop (i + 1) := by unfold X4; rw [hti]
         go_wp2_with (with_reducible refine QC 57 rfl ?_);unfold Hid;refine Zy ZD rfl (.tmp 55) (.tmp 56) rfl rfl rfl (by first | rfl | simp | omega) Qq HvR.out (by omega) ?_;intro A8 n8 c8 hn8 hcut;have Hn8 := LH hn8;have Hcut := LH hcut;clear hn8 hcut;go_wp2_with (with_reducible refine QC 59 rfl ?_);unfold Hid;have r1 := HboxR.out.set_ 1 (.slice A8 n8 c8);have r2 : Qa (fun q => q ≠ wo.heap.size) wR (wR.setCell ⟨wo.heap.size, 1, none⟩ (.slice A8 n8 c8)) := SR.setCell (fun _ h => h rfl) _;revert r1 r2;generalize wR.setCell ⟨wo.heap.size, 1, none⟩ (.slice A8 n8 c8) = W8;intro r1 r2;simp only [List.set_cons_succ, List.set_cons_zero] at r1;have hv8 := Hcut.out.keep (r2.mono fun q _ hq => hq.2);have hS8 : Qa (fun _ => True) wo W8 := HSR.out.trans' r2 fun j hj _ => by omega
         obtain ⟨a0, a1, a2, a3, a4, a5, a6, a7, a8, a9, a10, a11, -⟩ := QD r1;have z8 := r1.lt;have Hv8 := LH hv8;have HS8 := LH hS8;clear r1 r2 hv8 hS8 t0 t1 f1 zb;cases hl : c.locked
         ·rw [hl] at a2;by_cases h0 : n8 = 0
          ·have hf : QL a cs[k] = [] := by
            rw [← Hck.out]; unfold QL Qv; rw [htv, List.drop_eq_nil_of_le (by have := Hn8.out; omega)];simp [hl]
           have Hf := LH hf;have e1 : (n8 : Int) = 0 := by omega
           clear hf htv h0 hl;go_wp2;go_roundw
           case rel => exact ⟨k + 1, by go_num, Hrel.out.next hlt Hf.out HS8.out⟩
           case measure => simp [intOf]; omega
          ·have e1 : (0 : Int) < (n8 : Int) := by omega
           have hf : QL a cs[k] = [{ c with vers := c.vers.drop (i + 1) }] := by
            rw [← Hck.out]; unfold QL Qv; rw [htv];rw [if_pos];simp only [hl, Bool.false_or, Bool.not_eq_true', List.isEmpty_eq_false_iff];intro e;have := congrArg List.length e;rw [List.length_drop] at this;have h8 := Hn8.out;simp only [List.length_nil] at this;omega
           have Hf := LH hf;clear hf htv;go_wp2_with (at_builtin; refine Qf ?_);unfold Hid;refine QI (c := { c with vers := c.vers.drop (i + 1) }) (B := w2.heap.size) (Bv := w.heap.size + 1) rfl (.tmp 67) (.tmp 69) rfl rfl rfl (by first | rfl | simp) (by simp [Qj, Qn, hl]) Hrel.out (XD a) hlt Hf.out hn (by omega) Hv8.out (fun q h => h.1) SR HS8.out ?_;intro v' w9 Hrel9;go_wp2;go_roundw
           case rel => exact ⟨k + 1, by go_num, Hrel9.out⟩
           case measure => simp [intOf]; omega
         ·rw [hl] at a2
          have hf : QL a cs[k] = [{ c with vers := c.vers.drop (i + 1) }] := by
           rw [← Hck.out]; unfold QL Qv; rw [htv];simp [hl]
          have Hf := LH hf;clear hf htv;go_wp2_with (at_builtin; refine Qf ?_);unfold Hid;refine QI (c := { c with vers := c.vers.drop (i + 1) }) (B := w2.heap.size) (Bv := w.heap.size + 1) rfl (.tmp 67) (.tmp 69) rfl rfl rfl (by first | rfl | simp) (by simp [Qj, Qn, hl]) Hrel.out (XD a) hlt Hf.out hn (by omega) Hv8.out (fun q h => h.1) SR HS8.out ?_;intro v' w9 Hrel9;go_wp2;go_roundw
          case rel => exact ⟨k + 1, by go_num, Hrel9.out⟩
          case measure => simp [intOf]; omega
    ·have hjn : j = c.vers.length := by omega
     have hlast := Y7 Hcs.out hj hlow fun h => absurd h hjl
     have x3 : decide ((j : Int) < (c.vers.length : Int)) = false := decide_eq_false (by omega);have x4 : (c.vers.length : Int) ≤ (j : Int) := by omega
     have Hlast := LH hlast;have Hjn := LH hjn;clear hlow hlast hSi hjn;go_wp2;refine Qi (vs := [(.int .i64 j), (.pointer (some ⟨wo.heap.size, 1, none⟩)), (.slice Au c.vers.length cu), (.int .i64 c.vers.length), (.bool false), (.bool false), undef, undef, undef, undef, undef, undef, undef, undef, undef, (.bool false)]) (by kernel_rfl) (by kernel_rfl) rfl rfl ?_ ?_
     ·refine ⟨?_, ?_, ?_, ?_, ?_, ?_, ?_, ?_, ?_, ?_, ?_, ?_, ?_, ?_, ?_, ?_, tv⟩
      all_goals intro ac wc hs hd hz hf hw K hK
      ·have e0 := EV 9 (.int .i64 j) (hf 9 rfl);clear hd hz hf hw;simp only [if_true, RL, e0];go_simp;exact hK _ _ rfl SR
      ·have e0 := EP 8 wo.heap.size 0 (hf 8 rfl);clear hd hz hf hw;simp only [if_true, RL, e0];go_simp;exact hK _ _ rfl SR
      ·have e0 := EP 23 wo.heap.size 1 (hw 1 rfl);have m0 := MC a1 hs tv;clear hd hz hf hw;simp only [if_true, RL, e0];go_simp;exact hK _ _ rfl SR
      ·have e0 := EV 24 (.slice Au c.vers.length cu) (hw 2 rfl);clear hd hz hf hw;simp only [if_true, RL, e0];go_simp;exact hK _ _ rfl SR
      ·have e0 := EV 22 (.int .i64 j) (hw 0 rfl);have e1 := EV 25 (.int .i64 c.vers.length) (hw 3 rfl);clear hd hz hf hw;simp only [if_true, RL, e0, e1];go_simp;exact hK _ _ rfl SR
      ·have e0 := EV 26 (.bool false) (hw 4 rfl);clear hd hz hf hw;simp only [if_true, RL, e0];go_simp;exact hK _ _ rfl SR
      ·refine SW 5 27 false hz (hw 5 rfl) ?_;exact hK _ _ rfl SR
      ·refine SW 5 27 false hz (hw 5 rfl) ?_;exact hK _ _ rfl SR
      ·refine SW 5 27 false hz (hw 5 rfl) ?_;exact hK _ _ rfl SR
      ·refine SW 5 27 false hz (hw 5 rfl) ?_;exact hK _ _ rfl SR
      ·refine SW 5 27 false hz (hw 5 rfl) ?_;exact hK _ _ rfl SR
      ·refine SW 5 27 false hz (hw 5 rfl) ?_;exact hK _ _ rfl SR
      ·refine SW 5 27 false hz (hw 5 rfl) ?_;exact hK _ _ rfl SR
      ·refine SW 5 27 false hz (hw 5 rfl) ?_;exact hK _ _ rfl SR
      ·refine SW 5 27 false hz (hw 5 rfl) ?_;exact hK _ _ rfl SR
      ·have e0 := EV 27 (.bool false) (hw 5 rfl);have e1 := EV 36 undef (hw 14 rfl);clear hd hz hf hw;simp only [if_true, RL, e0, e1];go_simp;exact hK _ _ rfl SR
     ·intro wR hsR;simp only [Qk, Act.put, LP];have hSR := HSi.out.trans hsR;have hboxR := Hbox7.out.keep hSR tv;have hvR := Hv7.out.keepAll hSR;have hSoR := HS7.out.trans hSR;have hrowb := Hrel.out.row.keep hSoR tv;obtain ⟨-, a1, -, -, -, -, -, -, -, -, -, -, f0, f1, -⟩ := QD hboxR;have zb := hboxR.lt;have t0 : wR.cell? ⟨w.heap.size, 0, none⟩ = some (.int .i64 a.wall) := hrowb.cell 0;have t1 : wR.cell? ⟨w.heap.size, 1, none⟩ = some (.int .i64 a.tie) := hrowb.cell 1;have HSR := LH hSoR;have HboxR := LH hboxR;have HvR := LH hvR;have hlast := Hlast.out;have hjn := Hjn.out;clear hSR hboxR hvR hSoR hrowb hsR f0 x3 x4;rcases j with _ | i
      ·have hti := Y8 hlast;have q1 : (0 : Int) ≤ (c.vers.length : Int) := by omega
       clear hlast hjn;have htv : X4 c.vers a = c.vers.drop (0) := by unfold X4; rw [hti]
       go_wp2_with (with_reducible refine QC 57 rfl ?_);unfold Hid;refine Zy ZD rfl (.tmp 55) (.tmp 56) rfl rfl rfl (by rfl) Qq HvR.out (by omega) ?_;intro A8 n8 c8 hn8 hcut;have Hn8 := LH hn8;have Hcut := LH hcut;clear hn8 hcut;go_wp2_with (with_reducible refine QC 59 rfl ?_);unfold Hid;have r1 := HboxR.out.set_ 1 (.slice A8 n8 c8);have r2 : Qa (fun q => q ≠ wo.heap.size) wR (wR.setCell ⟨wo.heap.size, 1, none⟩ (.slice A8 n8 c8)) := SR.setCell (fun _ h => h rfl) _;revert r1 r2;generalize wR.setCell ⟨wo.heap.size, 1, none⟩ (.slice A8 n8 c8) = W8;intro r1 r2;simp only [List.set_cons_succ, List.set_cons_zero] at r1;have hv8 := Hcut.out.keep (r2.mono fun q _ hq => hq.2);have hS8 : Qa (fun _ => True) wo W8 := HSR.out.trans' r2 fun j hj _ => by omega
       obtain ⟨a0, a1, a2, a3, a4, a5, a6, a7, a8, a9, a10, a11, -⟩ := QD r1;have z8 := r1.lt;have Hv8 := LH hv8;have HS8 := LH hS8;clear r1 r2 hv8 hS8 t0 t1 f1 zb;cases hl : c.locked
       ·rw [hl] at a2;by_cases h0 : n8 = 0
        ·have hf : QL a cs[k] = [] := by
          rw [← Hck.out]; unfold QL Qv; rw [htv, List.drop_eq_nil_of_le (by have := Hn8.out; omega)];simp [hl]
         have Hf := LH hf;have e1 : (n8 : Int) = 0 := by omega
         clear hf htv h0 hl;go_wp2;go_roundw
         case rel => exact ⟨k + 1, by go_num, Hrel.out.next hlt Hf.out HS8.out⟩
         case measure => simp [intOf]; omega
        ·have e1 : (0 : Int) < (n8 : Int) := by omega
         have hf : QL a cs[k] = [{ c with vers := c.vers.drop (0) }] := by
          rw [← Hck.out]; unfold QL Qv; rw [htv];rw [if_pos];simp only [hl, Bool.false_or, Bool.not_eq_true', List.isEmpty_eq_false_iff];intro e;have := congrArg List.length e;rw [List.length_drop] at this;have h8 := Hn8.out;simp only [List.length_nil] at this;omega
         have Hf := LH hf;clear hf htv;go_wp2_with (at_builtin; refine Qf ?_);unfold Hid;refine QI (c := { c with vers := c.vers.drop (0) }) (B := w2.heap.size) (Bv := w.heap.size + 1) rfl (.tmp 67) (.tmp 69) rfl rfl rfl (by first | rfl | simp) (by simp [Qj, Qn, hl]) Hrel.out (XD a) hlt Hf.out hn (by omega) Hv8.out (fun q h => h.1) SR HS8.out ?_;intro v' w9 Hrel9;go_wp2;go_roundw
         case rel => exact ⟨k + 1, by go_num, Hrel9.out⟩
         case measure => simp [intOf]; omega
       ·rw [hl] at a2
        have hf : QL a cs[k] = [{ c with vers := c.vers.drop (0) }] := by
         rw [← Hck.out]; unfold QL Qv; rw [htv];simp [hl]
        have Hf := LH hf;clear hf htv;go_wp2_with (at_builtin; refine Qf ?_);unfold Hid;refine QI (c := { c with vers := c.vers.drop (0) }) (B := w2.heap.size) (Bv := w.heap.size + 1) rfl (.tmp 67) (.tmp 69) rfl rfl rfl (by first | rfl | simp) (by simp [Qj, Qn, hl]) Hrel.out (XD a) hlt Hf.out hn (by omega) Hv8.out (fun q h => h.1) SR HS8.out ?_;intro v' w9 Hrel9;go_wp2;go_roundw
        case rel => exact ⟨k + 1, by go_num, Hrel9.out⟩
        case measure => simp [intOf]; omega
      ·have hi : i < c.vers.length := by omega
       have hti := Kc hi hlast;obtain ⟨adR, eR, -, -, -, dR, -⟩ := Zl.cells (HvR.out.row Qq) hi;have q1 : (0 : Int) < (i : Int) + 1 := by omega
       have q2 : (0 : Int) ≤ (i : Int) := by omega
       have q3 : (i : Int) < (c.vers.length : Int) := by omega
       have q4 : (0 : Int) ≤ (i : Int) + 1 := by omega
       have q5 : (i : Int) + 1 ≤ (c.vers.length : Int) := by omega
       subst eR;clear hlast hjn;cases hd : c.vers[i].drop
       ·rw [hd] at dR hti;rw [if_neg (by simp)] at hti;clear hd;have htv : X4 c.vers a = c.vers.drop (i) := by unfold X4; rw [hti]
        go_wp2_with (with_reducible refine QC 57 rfl ?_);unfold Hid;refine Zy ZD rfl (.tmp 55) (.tmp 56) rfl rfl rfl (by first | rfl | simp | omega) Qq HvR.out (by omega) ?_;intro A8 n8 c8 hn8 hcut;have Hn8 := LH hn8;have Hcut := LH hcut;clear hn8 hcut;go_wp2_with (with_reducible refine QC 59 rfl ?_);unfold Hid;have r1 := HboxR.out.set_ 1 (.slice A8 n8 c8);have r2 : Qa (fun q => q ≠ wo.heap.size) wR (wR.setCell ⟨wo.heap.size, 1, none⟩ (.slice A8 n8 c8)) := SR.setCell (fun _ h => h rfl) _;revert r1 r2;generalize wR.setCell ⟨wo.heap.size, 1, none⟩ (.slice A8 n8 c8) = W8;intro r1 r2;simp only [List.set_cons_succ, List.set_cons_zero] at r1;have hv8 := Hcut.out.keep (r2.mono fun q _ hq => hq.2);have hS8 : Qa (fun _ => True) wo W8 := HSR.out.trans' r2 fun j hj _ => by omega
        obtain ⟨a0, a1, a2, a3, a4, a5, a6, a7, a8, a9, a10, a11, -⟩ := QD r1;have z8 := r1.lt;have Hv8 := LH hv8;have HS8 := LH hS8;clear r1 r2 hv8 hS8 t0 t1 f1 zb;cases hl : c.locked
        ·rw [hl] at a2;by_cases h0 : n8 = 0
         ·have hf : QL a cs[k] = [] := by
           rw [← Hck.out]; unfold QL Qv; rw [htv, List.drop_eq_nil_of_le (by have := Hn8.out; omega)];simp [hl]
          have Hf := LH hf;have e1 : (n8 : Int) = 0 := by omega
          clear hf htv h0 hl;go_wp2;go_roundw
          case rel => exact ⟨k + 1, by go_num, Hrel.out.next hlt Hf.out HS8.out⟩
          case measure => simp [intOf]; omega
         ·have e1 : (0 : Int) < (n8 : Int) := by omega
          have hf : QL a cs[k] = [{ c with vers := c.vers.drop (i) }] := by
           rw [← Hck.out]; unfold QL Qv; rw [htv];rw [if_pos];simp only [hl, Bool.false_or, Bool.not_eq_true', List.isEmpty_eq_false_iff];intro e;have := congrArg List.length e;rw [List.length_drop] at this;have h8 := Hn8.out;simp only [List.length_nil] at this;omega
          have Hf := LH hf;clear hf htv;go_wp2_with (at_builtin; refine Qf ?_);unfold Hid;refine QI (c := { c with vers := c.vers.drop (i) }) (B := w2.heap.size) (Bv := w.heap.size + 1) rfl (.tmp 67) (.tmp 69) rfl rfl rfl (by first | rfl | simp) (by simp [Qj, Qn, hl]) Hrel.out (XD a) hlt Hf.out hn (by omega) Hv8.out (fun q h => h.1) SR HS8.out ?_;intro v' w9 Hrel9;go_wp2;go_roundw
          case rel => exact ⟨k + 1, by go_num, Hrel9.out⟩
          case measure => simp [intOf]; omega
        ·rw [hl] at a2
         have hf : QL a cs[k] = [{ c with vers := c.vers.drop (i) }] := by
          rw [← Hck.out]; unfold QL Qv; rw [htv];simp [hl]
         have Hf := LH hf;clear hf htv;go_wp2_with (at_builtin; refine Qf ?_);unfold Hid;refine QI (c := { c with vers := c.vers.drop (i) }) (B := w2.heap.size) (Bv := w.heap.size + 1) rfl (.tmp 67) (.tmp 69) rfl rfl rfl (by first | rfl | simp) (by simp [Qj, Qn, hl]) Hrel.out (XD a) hlt Hf.out hn (by omega) Hv8.out (fun q h => h.1) SR HS8.out ?_;intro v' w9 Hrel9;go_wp2;go_roundw
         case rel => exact ⟨k + 1, by go_num, Hrel9.out⟩
         case measure => simp [intOf]; omega
       ·rw [hd] at dR hti;rw [if_pos rfl] at hti;clear hd;have htv : X4 c.vers a = c.vers.drop (i + 1) := by unfold X4; rw [hti]
        go_wp2_with (with_reducible refine QC 57 rfl ?_);unfold Hid;refine Zy ZD rfl (.tmp 55) (.tmp 56) rfl rfl rfl (by first | rfl | simp | omega) Qq HvR.out (by omega) ?_;intro A8 n8 c8 hn8 hcut;have Hn8 := LH hn8;have Hcut := LH hcut;clear hn8 hcut;go_wp2_with (with_reducible refine QC 59 rfl ?_);unfold Hid;have r1 := HboxR.out.set_ 1 (.slice A8 n8 c8);have r2 : Qa (fun q => q ≠ wo.heap.size) wR (wR.setCell ⟨wo.heap.size, 1, none⟩ (.slice A8 n8 c8)) := SR.setCell (fun _ h => h rfl) _;revert r1 r2;generalize wR.setCell ⟨wo.heap.size, 1, none⟩ (.slice A8 n8 c8) = W8;intro r1 r2;simp only [List.set_cons_succ, List.set_cons_zero] at r1;have hv8 := Hcut.out.keep (r2.mono fun q _ hq => hq.2);have hS8 : Qa (fun _ => True) wo W8 := HSR.out.trans' r2 fun j hj _ => by omega
        obtain ⟨a0, a1, a2, a3, a4, a5, a6, a7, a8, a9, a10, a11, -⟩ := QD r1;have z8 := r1.lt;have Hv8 := LH hv8;have HS8 := LH hS8;clear r1 r2 hv8 hS8 t0 t1 f1 zb;cases hl : c.locked
        ·rw [hl] at a2;by_cases h0 : n8 = 0
         ·have hf : QL a cs[k] = [] := by
           rw [← Hck.out]; unfold QL Qv; rw [htv, List.drop_eq_nil_of_le (by have := Hn8.out; omega)];simp [hl]
          have Hf := LH hf;have e1 : (n8 : Int) = 0 := by omega
          clear hf htv h0 hl;go_wp2;go_roundw
          case rel => exact ⟨k + 1, by go_num, Hrel.out.next hlt Hf.out HS8.out⟩
          case measure => simp [intOf]; omega
         ·have e1 : (0 : Int) < (n8 : Int) := by omega
          have hf : QL a cs[k] = [{ c with vers := c.vers.drop (i + 1) }] := by
           rw [← Hck.out]; unfold QL Qv; rw [htv];rw [if_pos];simp only [hl, Bool.false_or, Bool.not_eq_true', List.isEmpty_eq_false_iff];intro e;have := congrArg List.length e;rw [List.length_drop] at this;have h8 := Hn8.out;simp only [List.length_nil] at this;omega
          have Hf := LH hf;clear hf htv;go_wp2_with (at_builtin; refine Qf ?_);unfold Hid;refine QI (c := { c with vers := c.vers.drop (i + 1) }) (B := w2.heap.size) (Bv := w.heap.size + 1) rfl (.tmp 67) (.tmp 69) rfl rfl rfl (by first | rfl | simp) (by simp [Qj, Qn, hl]) Hrel.out (XD a) hlt Hf.out hn (by omega) Hv8.out (fun q h => h.1) SR HS8.out ?_;intro v' w9 Hrel9;go_wp2;go_roundw
          case rel => exact ⟨k + 1, by go_num, Hrel9.out⟩
          case measure => simp [intOf]; omega
        ·rw [hl] at a2
         have hf : QL a cs[k] = [{ c with vers := c.vers.drop (i + 1) }] := by
          rw [← Hck.out]; unfold QL Qv; rw [htv];simp [hl]
         have Hf := LH hf;clear hf htv;go_wp2_with (at_builtin; refine Qf ?_);unfold Hid;refine QI (c := { c with vers := c.vers.drop (i + 1) }) (B := w2.heap.size) (Bv := w.heap.size + 1) rfl (.tmp 67) (.tmp 69) rfl rfl rfl (by first | rfl | simp) (by simp [Qj, Qn, hl]) Hrel.out (XD a) hlt Hf.out hn (by omega) Hv8.out (fun q h => h.1) SR HS8.out ?_;intro v' w9 Hrel9;go_wp2;go_roundw
         case rel => exact ⟨k + 1, by go_num, Hrel9.out⟩
         case measure => simp [intOf]; omega
  ·obtain rfl : k = cs.length := by omega
   have hown := hrel.own;rw [List.take_length] at hown;have Hown := LH hown;clear hS hown hrel;go_wp2;go_ret;exact ⟨_, rfl, Hown.out.own (by omega) (by omega), HS02.out.trans HS.out⟩
set_option maxHeartbeats 4000000 in
theorem Qal (v : Value) (l : List (Value × Cel)) (c : (Value × Cel)) (i x B : Nat) (w : World) (hown : Qg Qj 12 64 w B v l) (hx : Row w x 64 (Qj c)) (hne : v.ownBlock ≠ some x) (hi : i ≤ l.length) (hn : l.length ≤ 1000000) (hB : B ≤ w.heap.size) (h1 : ∀ y ∈ l, ∀ u ∈ Qj y, u.oneCell' = true) (h2 : ∀ u ∈ Qj c, u.oneCell' = true) :
  Calls Try.prog 69 #[v, .int .i64 i, .slice (some ⟨x, 0, none⟩) 1 1] w (QbD Qj 12 64 B v (l.take i ++ c :: l.drop i) w) := by
 rcases Nat.lt_or_ge i l.length with hlt | hge
 ·rcases hown.ways with ⟨_, h0⟩ | ⟨g, cap, cur, rfl, hBg, hr, hc, hm, hcl, hct⟩
  ·rw [h0] at hlt; simp at hlt
  have hgx : x ≠ g := fun e => hne (by rw [e]; rfl)
  have hrow : (l.take i).flatMap Qj = cur.take (i * 12) := by
   have := congrArg (List.take (i * 12)) hct;rw [List.take_take, Nat.min_eq_left (Nat.mul_le_mul_right _ hi)] at this;rw [ZG Qj 12 Qp, ← this]
  have htail : (l.drop i).flatMap Qj = (cur.take (l.length * 12)).drop (i * 12) := by rw [Zw Qj 12 Qp, hct]
  have hgw := hr.lt;have hxw := hx.lt;obtain ⟨N, hN⟩ : ∃ N, N = l.length := ⟨_, rfl⟩;have hTl : ((l.drop i).flatMap Qj).length = (N - i) * 12 := by rw [XK Qj 12 Qp, List.length_drop, hN]
  have hHl : ((l.take i).flatMap Qj).length = i * 12 := by rw [XK Qj 12 Qp, List.length_take, Nat.min_eq_left hi]
  have hT1 : ∀ u ∈ (l.drop i).flatMap Qj, u.oneCell' = true := fun u hu => by
   obtain ⟨y, hy, hu⟩ := List.mem_flatMap.1 hu;exact h1 y (List.mem_of_mem_drop hy) u hu
  have hres : (l.take i ++ c :: l.drop i).length = N + 1 := by simp; omega
  have hcells := fun D => Us (f := Qj) (n := 12) Qp hi c D
  rw [hres] at hcells
  have htc : ∀ j u, ((l.drop i).flatMap Qj)[j]? = some u → w.cell? ((⟨g, i * 12, none⟩ : Addr).add j) = some u := by
   intro j u hu;rw [X7, hr.cell];rw [htail, List.getElem?_drop, List.getElem?_take] at hu;split at hu
   ·exact hu
   ·cases hu
  have hhc : ∀ j u, ((l.take i).flatMap Qj)[j]? = some u → w.cell? ((⟨g, 0, none⟩ : Addr).add j) = some u := by
   intro j u hu;rw [X7, hr.cell, Nat.zero_add];rw [hrow, List.getElem?_take] at hu;split at hu
   ·exact hu
   ·cases hu
  have hxc : ∀ j u, (Qj c)[j]? = some u → w.cell? ((⟨x, 0, none⟩ : Addr).add j) = some u := by
   intro j u hu;rw [X7, hx.cell, Nat.zero_add];exact hu
  have hcln := Qp c;rw [← hN] at hlt hn hc hct ⊢;have hi1 : (i : Int) + 1 ≤ (N : Int) := by omega
  have hcm : cap ≤ 9223372036854775807 := by unfold maxLen at hm; omega
  obtain ⟨T, hT⟩ : ∃ T, T = (l.drop i).flatMap Qj := ⟨_, rfl⟩;obtain ⟨H, hH⟩ : ∃ H, H = (l.take i).flatMap Qj := ⟨_, rfl⟩;obtain ⟨X, hX⟩ : ∃ X, X = Qj c := ⟨_, rfl⟩;obtain ⟨R, hR⟩ : ∃ R, R = l.take i ++ c :: l.drop i := ⟨_, rfl⟩;rw [← hT] at hTl hT1 htc;rw [← hH] at hHl hhc hrow;rw [← hX] at hxc hcln hx h2;rw [← hR] at hcells hres ⊢;rw [← hT, ← hH, ← hX] at hcells;have Hr := LH hr;have Hx := LH hx;have Htc := LH htc;have Hhc := LH hhc;have Hxc := LH hxc;have Hcells := LH hcells;have Hres := LH hres;have Hrow := LH hrow;have HTl := LH hTl;have HHl := LH hHl;have Hcl := LH hcl;have Hxl := LH hcln;have HT1 := LH hT1;have HX1 := LH h2;clear hr hx htc hhc hxc hcells hres hrow hTl hHl hcl hcln hT1 h1 h2 hct htail hown hT hH hX hR hne hN;by_cases hroom : cap < N + 1
  ·obtain rfl : cap = N := by omega
   have hw1 : IntKind.i64.wrap ((i : Int) + 1) = (i : Int) + 1 := by rw [IntKind.wrap_i64]; omega
   have hw2 : (0 : Int) ≤ (i : Int) + 1 := by omega
   have hw3 : ((i : Int) + 1).toNat = i + 1 := by omega
   have e1 : (cap : Int) < (cap : Int) + 1 := by omega
   have e2 : ¬ ((i : Int) = (cap : Int)) := by omega
   have e3 : ¬ (cap = i) := by omega
   have e4 : (i : Int) ≤ (cap : Int) := by omega
   go_enter Try.func69, Try.ntmps69;go_wp2_with (at_builtin; refine Qf ?_);unfold Hid;refine KB ZI w rfl (.tmp 34) (.tmp 39) 3 rfl (by kernel_rfl) ⟨g, 0, none⟩ i cap (cap + 1 - i) (cap + 1) _ H rfl rfl (by omega) (by omega) HHl.out Hhc.out (by omega) (by omega) (by omega) (by omega) ?_;intro w2 G Z k1 k2 k3 k4 k5 k6;have K1 := LH k1;have K2 := LH k2;have K5 := LH k5;unfold maxLen at k4;have f1 : ¬ (G = i) := by omega
   have f2 : ¬ (G = i + 1) := by omega
   have f3 : (i : Int) ≤ (cap : Int) + 1 := by omega
   have f4 : (cap : Int) + 1 ≤ (G : Int) := by omega
   have f5 : (i : Int) + 1 ≤ (cap : Int) + 1 := by omega
   clear k1 k2 k5;go_wp2_with (with_reducible refine YG rfl ?_);unfold Hid;refine Js ZI w2 rfl (.tmp 43) (.tmp 44) rfl w.heap.size (i * 12) (cap + 1 - i) (G - i) 1 1 1 ⟨x, 0, none⟩ (by first | rfl | simp) rfl (H ++ Z) X 64 K1.out (by simp only [Nat.min_def]; split <;> omega) (by have := Hxl.out; omega) (fun j u hu => K5.out.cell tv (Hxc.out j u hu)) (by rw [List.length_append, HHl.out, Hxl.out, K2.out, ← Nat.add_mul]; have : (i + 1) * 12 ≤ (i + (G - i)) * 12 := Nat.mul_le_mul_right _ (by omega); omega) HX1.out ?_;rw [We HHl.out Hxl.out];intro w3 k7 k8;have hS3 : Qa (fun k => k < w.heap.size) w w3 := (K5.out.mono fun _ _ _ => tv).trans (k8.mono fun k _ hk => by omega);have K7 := LH k7;have HS3 := LH hS3;clear k7 k8 hS3;go_wp2;go_region_law (refine Yz ZI rfl (.tmp 50) (.tmp 53) rfl w.heap.size ((i + 1) * 12) (cap + 1 - (i + 1)) (G - (i + 1)) (cap - i) (cap - i) (cap - i) ⟨g, i * 12, none⟩ (by simp [Act.eval, Act.put]) (by simp [Act.eval, Act.put]) (H ++ X ++ Z.drop 12) T 64 (Row.keep K7.out ((ST).drew) tv) (by simp only [Nat.min_def]; split <;> omega) HTl.out (fun j u hu => ((HS3.out).drew).cell (by rw [QK]; exact hgw) (Htc.out j u hu)) (by rw [List.length_append, List.length_append, HHl.out, Hxl.out, HTl.out, List.length_drop, K2.out, ← Nat.add_mul]; have : (i + 1 + (cap - i)) * 12 ≤ G * 12 := Nat.mul_le_mul_right _ (by omega); have : (G - i) * 12 = G * 12 - i * 12 := Nat.sub_mul _ _ _; omega) HT1.out ?_; intro w4 k9 k10);rw [Wd (by rw [List.length_append, HHl.out, Hxl.out]; omega)] at k9;go_wp2;go_ret;refine ⟨_, rfl, Qg.make hB k9.out (by have := Hres.out; omega) (by simp only [maxLen]; omega) ?_ (by rw [Hres.out]; exact Hcells.out _) Hres.out, ?_⟩
   ·rw [List.length_append, List.length_append, List.length_append, List.length_drop, List.length_drop, HHl.out, Hxl.out, HTl.out, K2.out];omega
   ·refine (HS3.out.drew.trans' k10.out fun q hq hq2 => by omega).mono fun q hq _ => hq
  ·have e1 : ¬ ((cap : Int) < (N : Int) + 1) := by omega
   have hw1 : IntKind.i64.wrap ((i : Int) + 1) = (i : Int) + 1 := by rw [IntKind.wrap_i64]; omega
   have hw2 : (0 : Int) ≤ (i : Int) + 1 := by omega
   have hw3 : ((i : Int) + 1).toNat = i + 1 := by omega
   have hw4 : (i : Int) + 1 ≤ (N : Int) + 1 := by omega
   have e2 : ¬ ((i : Int) = (N : Int)) := by omega
   have e3 : ¬ (cap = i) := by omega
   have e4 : (i : Int) ≤ (N : Int) := by omega
   have e5 : ¬ (cap = i + 1) := by omega
   have e6 : (i : Int) ≤ (N : Int) + 1 := by omega
   have hov := fun lb cb => Ub ZI Try.func97 (by kernel_rfl) (by kernel_rfl) (by kernel_rfl) 4 (by kernel_rfl) w x g X cur ((i + 1) * 12) 1 1 lb cb Hx.out Hr.out (by have := Hcl.out; intro h; rw [h] at this; simp at this; omega) hgx
   go_enter Try.func69, Try.ntmps69;go_wp2_with (simp only [hov]);clear hov;go_region_law (refine Yz ZI rfl (.tmp 73) (.tmp 76) rfl g ((i + 1) * 12) (N + 1 - (i + 1)) (cap - (i + 1)) (N + 1 - i) (cap - i) (N - i) ⟨g, i * 12, none⟩ (by simp [Act.eval, Act.put]) (by simp [Act.eval, Act.put]) cur T 64 (Row.keep Hr.out ((ST).drew) tv) (by simp only [Nat.min_def]; split <;> omega) HTl.out (fun j u hu => Htc.out j u hu) (by rw [HTl.out, Hcl.out, ← Nat.add_mul]; exact Nat.mul_le_mul_right _ (by omega)) HT1.out ?_; intro w4 k9 k10);have K9 := LH k9.out;have K10 := LH k10.out;clear k9 k10;go_wp2_with (with_reducible refine YG rfl ?_);unfold Hid;refine Js ZI w4 rfl (.tmp 80) (.tmp 81) rfl g (i * 12) (N + 1 - i) (cap - i) 1 1 1 ⟨x, 0, none⟩ (by first | rfl | simp) rfl _ X 64 K9.out (by simp only [Nat.min_def]; split <;> omega) (by have := Hxl.out; omega) (fun j u hu => (K10.out.cell (by rw [QK]; exact hgx) (Hxc.out j u hu))) ?_ HX1.out ?_
   ·rw [List.length_append, List.length_append, List.length_take, List.length_drop, Hxl.out, HTl.out, Hcl.out];omega
   rw [show (i + 1) * 12 = i * 12 + 12 from by omega, Uk Hrow.out Hxl.out (by rw [Hcl.out]; omega)];intro w5 k11 k12;have K11 := LH k11;have K12 := LH k12;clear k11 k12;go_wp2;go_ret;refine ⟨_, rfl, Qg.make hBg K11.out (by have := Hres.out; omega) hm ?_ (by rw [Hres.out]; exact Hcells.out _) Hres.out, ?_⟩
   ·rw [List.length_append, List.length_append, List.length_append, List.length_drop, HHl.out, Hxl.out, HTl.out, Hcl.out];omega
   ·refine (((Qa.refl (fun q => q ≠ g) w).drew.trans K10.out).trans K12.out).mono fun q _ hq e => hq ?_
    rw [e]; rfl
 ·obtain rfl : i = l.length := by omega
  rw [List.take_length, List.drop_length];obtain ⟨A, cp, rfl, hc1, hc2⟩ := hown.form;have Hown := LH hown;have Hx := LH hx;unfold maxLen at hc2;clear hown hx hne;rcases Nat.eq_or_lt_of_le hc1 with rfl | hcc
  all_goals
   try have hcc' : ¬ cp = l.length := by omega
   go_enter Try.func69, Try.ntmps69;go_wp2_with (at_builtin; refine Qf ?_);unfold Hid;have hsl := Hx.out.sl (size := 12) (off := 0) (n := 1) (by rw [Qp]; omega);rw [List.drop_zero, List.take_of_length_le (by rw [Qp]; omega)] at hsl;refine Zu ZI _ rfl (.tmp 23) (.tmp 24) rfl B _ l.length (l.flatMap Qj) rfl Hown.out _ _ 1 1 (Qj c) rfl hsl h2 (by simp only [maxLen]; omega) (by omega) hB ?_;intro v' w' k1 k2 k3;have K1 := LH k1;have K2 := LH k2;clear k1 k2 k3 hsl;go_wp2;go_ret;refine ⟨_, rfl, ?_, K2.out⟩;unfold Qg;rw [List.length_append, List.flatMap_append];simpa using K1.out
def Ks : List Value → Nat → List Value → List Value
 | L, _, [] => L
 | L, k, v :: vs => Ks (L.set k v) (k + 1) vs
theorem Uj : ∀ (vs L : List Value) (k : Nat), (Ks L k vs).length = L.length
 | [], _, _ => rfl
 | v :: vs, L, k => by
  show (Ks (L.set k v) (k + 1) vs).length = _;rw [Uj vs, List.length_set]
theorem Vr : ∀ (vs L : List Value) (k : Nat), k + vs.length ≤ L.length → Ks L k vs = L.take k ++ vs ++ L.drop (k + vs.length)
 | [], L, k, _ => by simp [Ks]
 | v :: vs, L, k, h => by
  rw [List.length_cons] at h;show Ks (L.set k v) (k + 1) vs = _;rw [Vr vs _ _ (by rw [List.length_set]; omega), List.take_set, List.take_succ_eq_append_getElem (by omega), List.drop_set, if_pos (by omega)]
  have e1 : ((L.take k ++ [L[k]]).set k v) = L.take k ++ [v] := by
   rw [List.set_append, if_neg (by rw [List.length_take]; omega)];have : k - (L.take k).length = 0 := by rw [List.length_take]; omega
   rw [this]; rfl
  rw [e1, List.length_cons, show k + 1 + vs.length = k + (vs.length + 1) from by omega];simp
def Q8 : World → Nat → Nat → List Value → World
 | w, _, _, [] => w
 | w, g, k, v :: vs => Q8 (w.setCell ⟨g, k, none⟩ v) g (k + 1) vs
theorem Row.sets {g : Nat} {e : TypeId} : ∀ (vs : List Value) {w : World} {L : List Value} (k : Nat), Row w g e L → Row (Q8 w g k vs) g e (Ks L k vs)
 | [], _, _, _, h => h
 | v :: vs, w, L, k, h => Row.sets vs (k + 1) (h.set_ k v)
theorem Qa.sets {S : Nat → Prop} {g : Nat} (hg : ¬ S g) : ∀ (vs : List Value) {w w' : World} (k : Nat), Qa S w w' → Qa S w (Q8 w' g k vs)
 | [], _, _, _, h => h
 | v :: vs, w, w', k, h => Qa.sets hg vs (k + 1) (h.setCell (p := ⟨g, k, none⟩) (fun _ => hg) v)
def Zc (l : Lck) : List Value := .bool true :: Qn l
theorem Qab (u : Value) (d : Cel) (l : Lck) : Qj (u, Kf d l) = (Qj (u, d)).take 2 ++ Zc l := rfl
set_option maxHeartbeats 1000000 in
theorem QY.upd {w W : World} {B g cap n : Nat} {A Z : List Cel} {d : Cel} (h : QY w B (.slice (some ⟨g, 0, none⟩) n cap) (A ++ d :: Z)) (l : Lck) {o : Nat} (ho : o = A.length * 12 + 2) (hW : W = Q8 w g o (Zc l)) :
  QY W B (.slice (some ⟨g, 0, none⟩) n cap) (A ++ Kf d l :: Z) ∧ Qa (fun k => k ≠ g) w W := by
 subst ho hW;have hS : Qa (fun k => k ≠ g) w (Q8 w g (A.length * 12 + 2) (Zc l)) := Qa.sets (fun h => h rfl) _ _ SR;refine ⟨?_, hS⟩;obtain ⟨us, u1, u2, u3⟩ := h;have hul : (us.zip (A ++ d :: Z)).length = (A ++ d :: Z).length := by simp [u1]
 have hAl : A.length < us.length := by rw [u1]; simp
 rcases u2.ways with ⟨h0, _⟩ | ⟨g', cap', cur, h0, hB, hr, hc, hm, hl, ht⟩
 ·cases h0
 injection h0 with h0 h1 h2;injection h0 with h0;injection h0 with h0 _ _;subst h0 h2
 have e1 : us = us.take A.length ++ us[A.length] :: us.drop (A.length + 1) := by
  rw [← List.drop_eq_getElem_cons hAl, List.take_append_drop]
 have hta : (us.take A.length).length = A.length := by rw [List.length_take]; omega
 have hz : us.zip (A ++ d :: Z) = (us.take A.length).zip A ++ (us[A.length], d) :: (us.drop (A.length + 1)).zip Z := by
  conv => lhs; rw [e1]
  rw [List.zip_append hta];rfl
 have hz' : us.zip (A ++ Kf d l :: Z) = (us.take A.length).zip A ++ (us[A.length], Kf d l) :: (us.drop (A.length + 1)).zip Z := by
  conv => lhs; rw [e1]
  rw [List.zip_append hta];rfl
 have hlA : ((us.take A.length).zip A).length = A.length := by simp; omega
 have hr' := Row.sets (Zc l) (A.length * 12 + 2) hr;have hn : (us.zip (A ++ Kf d l :: Z)).length = (us.zip (A ++ d :: Z)).length := by simp
 have hlen : (A ++ d :: Z).length = A.length + 1 + Z.length := by simp; omega
 refine ⟨us, by rw [u1]; simp, ?_, ?_⟩
 ·refine Qg.make hB hr' (by rw [hn]; exact hc) hm (by rw [Uj]; exact hl) ?_ (by rw [hn]; exact h1.symm);have hcap0 : (A ++ d :: Z).length ≤ cap := by rw [← hul]; exact hc
  have hfit : A.length * 12 + 2 + (Zc l).length ≤ cur.length := by
   have : (Zc l).length = 10 := rfl;omega
  rw [hn, Vr _ _ _ hfit, hz', List.flatMap_append, List.flatMap_cons, Qab];rw [hz, List.flatMap_append, List.flatMap_cons] at ht;have hA12 : (((us.take A.length).zip A).flatMap Qj).length = A.length * 12 := by rw [XK Qj 12 Qp, hlA]
  have hN : (((us.take A.length).zip A ++ (us[A.length], d) :: (us.drop (A.length + 1)).zip Z)).length = A.length + 1 + Z.length := by rw [← hz, hul, hlen]
  rw [hN] at ht;have hcap : A.length + 1 + Z.length ≤ cap := by rw [← hlen, ← hul]; exact hc
  have hlk : (Zc l).length = 10 := rfl;have hZl : ((us.drop (A.length + 1)).zip Z).length = Z.length := by simp at u1 ⊢; omega
  have hZ12 : (((us.drop (A.length + 1)).zip Z).flatMap Qj).length = Z.length * 12 := by rw [XK Qj 12 Qp, hZl]
  -- the row's pieces
  have p1 : cur.take (A.length * 12) = ((us.take A.length).zip A).flatMap Qj := by
   have q1 : (cur.take ((A.length + 1 + Z.length) * 12)).take (A.length * 12) = cur.take (A.length * 12) := by rw [List.take_take, Nat.min_eq_left (by omega)]
   rw [← q1, ht, ← hA12];exact List.take_left
  have p2 : (cur.take ((A.length + 1 + Z.length) * 12)).drop (A.length * 12) = Qj (us[A.length], d) ++ ((us.drop (A.length + 1)).zip Z).flatMap Qj := by
   rw [ht, ← hA12];exact List.drop_left
  have p3 : (cur.drop (A.length * 12)).take 2 = (Qj (us[A.length], d)).take 2 := by
   have := congrArg (List.take 2) p2;rw [List.drop_take, List.take_take, Nat.min_eq_left (by omega), List.take_append_of_le_length (by rw [Qp]; omega)] at this;exact this
  have p4 : (cur.take ((A.length + 1 + Z.length) * 12)).drop ((A.length + 1) * 12) = ((us.drop (A.length + 1)).zip Z).flatMap Qj := by
   have q1 : (Qj (us[A.length], d) ++ ((us.drop (A.length + 1)).zip Z).flatMap Qj).drop 12 = ((us.drop (A.length + 1)).zip Z).flatMap Qj := by
    have : (12 : Nat) = (Qj (us[A.length], d)).length := rfl;rw [this];exact List.drop_left
   rw [← q1, ← p2, List.drop_drop, show A.length * 12 + 12 = (A.length + 1) * 12 from by omega]
  have p5 : cur.take (A.length * 12 + 2) = cur.take (A.length * 12) ++ (cur.drop (A.length * 12)).take 2 := by rw [List.take_add]
  rw [p5, p1, p3, hlk, hul, hlen, ← p4, List.drop_take]
  have q1 : (((us.take A.length).zip A).flatMap Qj ++ (Qj (us[A.length], d)).take 2).length = A.length * 12 + 2 := by
   rw [List.length_append, hA12, List.length_take, Qp]; omega
  rw [List.append_assoc _ (Zc l), List.take_append, q1, List.take_of_length_le (by rw [q1]; omega), List.take_append, hlk, List.take_of_length_le (l := Zc l) (by rw [hlk]; omega)];rw [show (A.length + 1 + Z.length) * 12 - (A.length * 12 + 2) - 10 = (A.length + 1 + Z.length) * 12 - (A.length + 1) * 12 from by omega, show A.length * 12 + 2 + 10 = (A.length + 1) * 12 from by omega];simp only [List.append_assoc]
 ·intro i hi hi'
  have hv : (A ++ Kf d l :: Z)[i].vers = ((A ++ d :: Z)[i]'(by simp at hi ⊢; omega)).vers := by
   rcases Nat.lt_trichotomy i A.length with h | h | h
   ·rw [List.getElem_append_left h, List.getElem_append_left h]
   ·subst h; simp [Kf]
   ·rw [List.getElem_append_right (by omega), List.getElem_append_right (by omega), List.getElem_cons, List.getElem_cons, dif_neg (by omega), dif_neg (by omega)]
  rw [hv];have := u3 i (by simp at hi ⊢; omega) hi';refine this.keepOwn u2 (by decide) (hS.mono fun k _ hk e => hk ?_);rw [e]; rfl
theorem Kk {us : List Value} {cs : List Cel} (u : Value) (d : Cel) (h : us.length = cs.length) (i : Nat) : (us.zip cs).take i ++ (u, d) :: (us.zip cs).drop i = (us.take i ++ u :: us.drop i).zip (cs.take i ++ d :: cs.drop i) := by
 rw [List.zip_append (by simp [h]), List.zip_cons_cons];simp only [List.zip, List.take_zipWith, List.drop_zipWith]
set_option maxHeartbeats 1000000 in
theorem UY (v : Value) (cs : List Cel) (key : List UInt8) (i x B : Nat) (w : World) (hown : QY w B v cs) (hx : Row w x 64 (Qj (.slice none 0 0, QM key))) (hne : v.ownBlock ≠ some x) (hi : i ≤ cs.length) (hn : cs.length ≤ 1000000) (hB : B ≤ w.heap.size) :
  Calls Try.prog 69 #[v, .int .i64 i, .slice (some ⟨x, 0, none⟩) 1 1] w fun e w' => ∃ v', e = .returned v' ∧ QY w' B v' (cs.take i ++ QM key :: cs.drop i) ∧ Qa (fun k => some k ≠ v.ownBlock) w w' := by
 obtain ⟨us, u1, u2, u3⟩ := hown;have hul : (us.zip cs).length = cs.length := by simp [u1]
 refine (Qal v (us.zip cs) (.slice none 0 0, QM key) i x B w u2 hx hne (by omega) (by omega) hB ?_ (Xy _)).mono ?_
 ·intro y hy;obtain ⟨j, hj, rfl⟩ := List.mem_iff_getElem.1 hy;obtain ⟨Aj, cj, h1, _⟩ := u3 j (by omega) (by omega);rw [List.getElem_zip, h1];exact Xy _
 ·rintro e w' ⟨v', rfl, h1, h2⟩;rw [Kk _ _ u1] at h1;refine ⟨v', rfl, ⟨_, by simp [u1], h1, fun j hj hj' => ?_⟩, h2⟩;have keep : ∀ q (h : q < cs.length) (h' : q < us.length), X5 Qz 4 69 w' (fun k => B ≤ k) us[q] cs[q].vers := fun q h h' => (u3 q h h').keepOwn u2 (by decide) h2
  have ha : (us.take i).length = i := by rw [List.length_take]; omega
  have hb : (cs.take i).length = i := by rw [List.length_take]; omega
  rcases Nat.lt_trichotomy j i with h | h | h
  ·rw [List.getElem_append_left (by omega), List.getElem_append_left (by omega), List.getElem_take, List.getElem_take];exact keep j _ _
  ·subst h;rw [List.getElem_append_right (by omega), List.getElem_append_right (by omega)];simp only [ha, hb, Nat.sub_self, List.getElem_cons_zero];exact ⟨none, 0, rfl, Nat.le_refl _, by simp [maxLen], fun h => absurd h (by simp [QM])⟩
  ·rw [List.getElem_append_right (by omega), List.getElem_append_right (by omega)];simp only [ha, hb];rw [List.getElem_cons, List.getElem_cons, dif_neg (by omega), dif_neg (by omega), List.getElem_drop, List.getElem_drop];exact keep _ _ _
def Z9 (w : Wr) : List Value := [.string (str w.key), .bool w.drop, .string (str w.data)]
abbrev wrV (w : Wr) : Value := .agg #[.string (str w.key), .bool w.drop, .string (str w.data)]
theorem QY.head {w : World} {B : Nat} {v : Value} {cs : List Cel} (h : QY w B v cs) (h0 : 0 < cs.length) : ∃ g n cap, v = .slice (some ⟨g, 0, none⟩) n cap ∧ n = cs.length ∧ n ≤ cap ∧ cap ≤ maxLen ∧ B ≤ g ∧ g < w.heap.size ∧ ∀ j, w.frozen? ⟨g, j, none⟩ = false := by
 obtain ⟨us, u1, u2, _⟩ := h;have hul : (us.zip cs).length = cs.length := by simp [u1]
 rcases u2.ways with ⟨_, h0'⟩ | ⟨g, cap, cur, h1, hB, hr, hc, hm, _⟩
 ·rw [h0'] at hul; simp at hul; omega
 ·exact ⟨g, _, cap, h1, hul, hc, hm, hB, hr.lt, hr.frozen⟩
theorem QY.at12 {w : World} {B g n cap : Nat} {cs : List Cel} (h : QY w B (.slice (some ⟨g, 0, none⟩) n cap) cs) {i : Nat} (hi : i < cs.length) : ∃ u2 u3 u4 u5 u6 u7 u8 u9 u10 u11 : Value,
  w.cell? ⟨g, i * 12 + 2, none⟩ = some u2 ∧ w.cell? ⟨g, i * 12 + 3, none⟩ = some u3 ∧ w.cell? ⟨g, i * 12 + 4, none⟩ = some u4 ∧ w.cell? ⟨g, i * 12 + 5, none⟩ = some u5 ∧ w.cell? ⟨g, i * 12 + 6, none⟩ = some u6 ∧ w.cell? ⟨g, i * 12 + 7, none⟩ = some u7 ∧ w.cell? ⟨g, i * 12 + 8, none⟩ = some u8 ∧ w.cell? ⟨g, i * 12 + 9, none⟩ = some u9 ∧ w.cell? ⟨g, i * 12 + 10, none⟩ = some u10 ∧ w.cell? ⟨g, i * 12 + 11, none⟩ = some u11 := by
 obtain ⟨ad, u, e, -, -, -, -, h⟩ := h.cells12 hi;injection e with e;subst e;simp only [X7, Nat.zero_add] at h;exact ⟨_, _, _, _, _, _, _, _, _, _, h⟩
theorem UR (l : Lck) : Qn l = [.int .i64 l.by_.node, .int .i64 l.by_.life, .int .i64 l.by_.seq, .int .i64 l.by_.attempt, .int .i64 l.home, .int .i64 l.at_.wall, .int .i64 l.at_.tie, .bool l.drop, .string (str l.data)] := rfl
set_option maxHeartbeats 4000000 in
theorem VV (v : Value) (cs : List Cel) (x : Wr) (l : Lck) (S : Nat → Prop) (w : World) (hv : QU w S v cs) (hn : cs.length ≤ 100000) (hn2 : ∀ c ∈ cs, c.vers.length ≤ 1000000) (hso : XI cs) :
  Calls Try.prog 26 #[v, wrV x, Q4 l] w (KZ (ZV cs x.key (XJ x l)) w) := by
 obtain ⟨A, cp, rfl, hc, hm⟩ := hv.form;have Hv := LH hv;have Hn2 := LH hn2;have Hso := LH hso;obtain ⟨Aa, o, Z, e1, e2, e3, e4, e5, e6, e7⟩ := JQ (k := x.key) ((Yp cs).1 hso);have e5 := e5 (XJ x l);unfold maxLen at hm;have r0 := (Row.new w 24 (Z9 x)).keep ((ST).alloc (.cells (Qn l).toArray 30)) tv;have r1 := Row.new (w.alloc (.cells (Z9 x).toArray 24)) 30 (Qn l);have hS0 := ((Qa.refl (fun _ => True) w).alloc (.cells (Z9 x).toArray 24)).alloc (.cells (Qn l).toArray 30);rw [World.size_alloc] at r1;have hsz : (w.alloc (.cells (Z9 x).toArray 24) |>.alloc (.cells (Qn l).toArray 30)).heap.size = w.heap.size + 2 := by rw [World.size_alloc, World.size_alloc]
 have E1 := LH e1;have E4 := LH e4;have E5 := LH e5;clear hv hn2 hso e1 e2 e3 e4 e5;obtain ⟨cf, hcf⟩ : ∃ cf, cf = XB cs x.key := ⟨_, rfl⟩;go_enter Try.func26, Try.ntmps26;go_wp2;revert r0 r1 hS0 hsz;simp only [Z9, Qn];generalize (w.alloc _).alloc _ = W0;intro r0 r1 hS0 hsz;have b0 : W0.cell? ⟨w.heap.size, 0, none⟩ = some (.string (str x.key)) := r0.cell 0;have b1 : W0.cell? ⟨w.heap.size, 1, none⟩ = some (.bool x.drop) := r0.cell 1;have b2 : W0.cell? ⟨w.heap.size, 2, none⟩ = some (.string (str x.data)) := r0.cell 2;have l7 : W0.cell? ⟨w.heap.size + 1, 7, none⟩ = some (.bool l.drop) := r1.cell 7;have l8 : W0.cell? ⟨w.heap.size + 1, 8, none⟩ = some (.string (str l.data)) := r1.cell 8;have f7 := r1.frozen 7;have f8 := r1.frozen 8;have z0 := r0.lt;have z1 := r1.lt;have R0 := LH r0;have R1 := LH r1;have HS0 := LH hS0;have Hsz := LH hsz;clear r0 r1 hS0 hsz;go_region;go_wp2_with (with_reducible refine QC 17 rfl ?_);unfold Hid;have r1 := (R1.out.set_ 7 (.bool x.drop)).set_ 8 (.string (str x.data));have hS1 : Qa (fun q => q ≠ w.heap.size + 1) W0 ((W0.setCell ⟨w.heap.size + 1, 7, none⟩ (.bool x.drop)).setCell ⟨w.heap.size + 1, 8, none⟩ (.string (str x.data))).drew := ((SR.setCell (fun _ h => h rfl) _).setCell (fun _ h => h rfl) _).drew;have r1 := r1.keep ((ST).drew) tv;have hsz1 : ((W0.setCell ⟨w.heap.size + 1, 7, none⟩ (.bool x.drop)).setCell ⟨w.heap.size + 1, 8, none⟩ (.string (str x.data))).drew.heap.size = w.heap.size + 2 := by rw [← Hsz.out]; simp [World.setCell, World.drew]
 revert hsz1 hS1 r1;generalize ((W0.setCell ⟨w.heap.size + 1, 7, none⟩ (.bool x.drop)).setCell ⟨w.heap.size + 1, 8, none⟩ (.string (str x.data))).drew = W1;intro hS1 r1 hsz1;have r1 : Row W1 (w.heap.size + 1) 30 [.int .i64 l.by_.node, .int .i64 l.by_.life, .int .i64 l.by_.seq, .int .i64 l.by_.attempt, .int .i64 l.home, .int .i64 l.at_.wall, .int .i64 l.at_.tie, .bool x.drop, .string (str x.data)] := r1;have r0 := R0.out.keep hS1 (by omega);have b0 : W1.cell? ⟨w.heap.size, 0, none⟩ = some (.string (str x.key)) := r0.cell 0;have b1 : W1.cell? ⟨w.heap.size, 1, none⟩ = some (.bool x.drop) := r0.cell 1;have l8 : W1.cell? ⟨w.heap.size + 1, 8, none⟩ = some (.string (str x.data)) := r1.cell 8;have f8 := r1.frozen 8;have z1 := r1.lt;have R0 := LH r0;have R1 := LH r1;have Hsz := LH hsz1;have hS2 : Qa (fun _ => True) w W1 := HS0.out.trans' hS1 fun q hq _ => by omega
 have HS0 := LH hS2;clear r0 r1 hS1 hsz1 hS2 b2 l7 f7 z0;cases hd : x.drop
 ·rw [hd] at b1;have hlk : Qn (XJ x l) = [.int .i64 l.by_.node, .int .i64 l.by_.life, .int .i64 l.by_.seq, .int .i64 l.by_.attempt, .int .i64 l.home, .int .i64 l.at_.wall, .int .i64 l.at_.tie, .bool x.drop, .string (str x.data)] := by simp [UR, XJ, hd]
  have Hlk := LH hlk;have Hd := LH hd;clear hlk hd;go_wp2_with (go_at_call 67; refine Qf ?_);unfold Hid;obtain ⟨W2, hW2⟩ : ∃ W2, W2 = W1 := ⟨_, rfl⟩;subst hW2;have hsz2 := Hsz.out;refine (Wa (.slice A cs.length cp) cs S W2 (Hv.out.keepAll HS0.out) hn Hn2.out).mono ?_;rintro e w3 ⟨v3, rfl, hown3, hS3⟩;obtain ⟨A3, n3, c3, rfl, hl3, hm3⟩ := hown3.form3;unfold maxLen at hm3;have r0 := R0.out.keep hS3 tv;have r1 := R1.out.keep hS3 tv;have b0 : w3.cell? ⟨w.heap.size, 0, none⟩ = some (.string (str x.key)) := r0.cell 0;have z1 := r1.lt;have R0 := LH r0;have R1 := LH r1;have Hown3 := LH hown3;have hS03 := HS0.out.trans hS3;have HS0 := LH hS03;have hz3 := hS3.size;clear r0 r1 hown3 hS3 hS03 b1 l8 f8;go_wp2_with (go_at_call 68; refine Qf ?_);unfold Hid;refine (ZF (.slice A3 n3 c3) cs x.key _ w3 Hown3.out.reads Hso.out (by omega)).mono ?_;rintro e w4 ⟨rfl, hS4⟩;rw [e6, e7];have r0 := R0.out.keep hS4 tv;have r1 := R1.out.keep hS4 tv;have b0 : w4.cell? ⟨w.heap.size, 0, none⟩ = some (.string (str x.key)) := r0.cell 0;have z1 := r1.lt;have R0 := LH r0;have R1 := LH r1;have hown4 := Hown3.out.keepAll hS4;rw [E1.out] at hown4;have hS04 := HS0.out.trans hS4;have HS0 := LH hS04;have hz4 := hS4.size;have hB : W2.heap.size ≤ w4.heap.size := by omega
  have Hown4 := LH hown4;clear r0 r1 hS4 hS04 hown4;cases o with
  | some c =>
   obtain ⟨w5, hw5⟩ : ∃ w5, w5 = w4 := ⟨_, rfl⟩;subst hw5;have hown5 := Hown4.out;simp only [Option.toList_some, List.singleton_append] at hown5;have Hown5 := LH hown5;have HS5 := HS0;rw [Option.getD_some] at E5;clear hown5 e6 e7 Hown4;go_wp2;have hlt : Aa.length < (Aa ++ c :: Z).length := by simp
   obtain ⟨g, n5, cap5, hv5, hn5, hc5, hm5, hBg, hg5, hfz⟩ := Hown5.out.head (by rw [List.length_append, List.length_cons]; omega);injection hv5 with hv5 hv6 hv7;subst hv5 hv6 hv7;have hn5' : n3 = Aa.length + 1 + Z.length := by rw [hn5]; simp; omega
   obtain ⟨k2, k3, k4, k5, k6, k7, k8, k9, k10, k11, y2, y3, y4, y5, y6, y7, y8, y9, y10, y11⟩ := Hown5.out.at12 hlt;have q1 : (0 : Int) ≤ (Aa.length : Int) := by omega
   have q2 : (Aa.length : Int) < (n3 : Int) := by omega
   have f2 := hfz (Aa.length * 12 + 2);have f3 := hfz (Aa.length * 12 + 3);have f4 := hfz (Aa.length * 12 + 4);have f5 := hfz (Aa.length * 12 + 5);have f6 := hfz (Aa.length * 12 + 6);have f7 := hfz (Aa.length * 12 + 7);have f8 := hfz (Aa.length * 12 + 8);have f9 := hfz (Aa.length * 12 + 9);have f10 := hfz (Aa.length * 12 + 10);have f11 := hfz (Aa.length * 12 + 11);have r1 := R1.out;have m0 : w5.cell? ⟨w.heap.size + 1, 0, none⟩ = some (.int .i64 l.by_.node) := r1.cell 0;have m1 : w5.cell? ⟨w.heap.size + 1, 1, none⟩ = some (.int .i64 l.by_.life) := r1.cell 1;have m2 : w5.cell? ⟨w.heap.size + 1, 2, none⟩ = some (.int .i64 l.by_.seq) := r1.cell 2;have m3 : w5.cell? ⟨w.heap.size + 1, 3, none⟩ = some (.int .i64 l.by_.attempt) := r1.cell 3;have m4 : w5.cell? ⟨w.heap.size + 1, 4, none⟩ = some (.int .i64 l.home) := r1.cell 4;have m5 : w5.cell? ⟨w.heap.size + 1, 5, none⟩ = some (.int .i64 l.at_.wall) := r1.cell 5;have m6 : w5.cell? ⟨w.heap.size + 1, 6, none⟩ = some (.int .i64 l.at_.tie) := r1.cell 6;have m7 : w5.cell? ⟨w.heap.size + 1, 7, none⟩ = some (.bool x.drop) := r1.cell 7;have m8 : w5.cell? ⟨w.heap.size + 1, 8, none⟩ = some (.string (str x.data)) := r1.cell 8;have hne1 : g ≠ w.heap.size + 1 := by omega
   have z5 := r1.lt;clear r1 hfz hn5 hn5' hlt;go_region;go_wp2;go_ret;have hup := Hown5.out.upd (W := Q8 w5 g (Aa.length * 12 + 2) [.bool true, .int .i64 l.by_.node, .int .i64 l.by_.life, .int .i64 l.by_.seq, .int .i64 l.by_.attempt, .int .i64 l.home, .int .i64 l.at_.wall, .int .i64 l.at_.tie, .bool x.drop, .string (str x.data)]) (XJ x l) rfl (by rw [Zc, Hlk.out]);rw [E5.out];simp only [Q8] at hup;refine ⟨_, rfl, (hup.1.keepAll (SR.drew)).lower (by omega), ?_⟩;exact HS5.out.trans' hup.2.drew fun q hq _ => by omega
  | none =>
   have hown5 := Hown4.out;simp only [Option.toList_none, List.nil_append] at hown5;have Hown4 := LH hown5;rw [Option.getD_none] at E5;have E1' : cs = Aa ++ Z := by have := E1.out; simpa using this
   have HE1 := LH E1';have hlA : Aa.length ≤ (Aa ++ Z).length := by simp
   have hlc : (Aa ++ Z).length ≤ 1000000 := by rw [← E1']; omega
   have hsb := (Qa.refl (fun _ => True) w4).alloc (.cells (Qj (.slice none 0 0, QM x.key)).toArray 64)
   have gi := UY (.slice A3 n3 c3) (Aa ++ Z) x.key Aa.length w4.heap.size W2.heap.size (w4.alloc (.cells (Qj (.slice none 0 0, QM x.key)).toArray 64)) (hown5.keepAll hsb) (Row.new _ _ _) (fun e => by
    obtain ⟨us, _, u2, _⟩ := hown5;have := (u2.lt_ e).2
    omega) hlA hlc (by have := hsb.size; omega)
   rw [List.take_left, List.drop_left] at gi
   have hown6 : ∀ k, (Value.slice A3 n3 c3).ownBlock = some k → W2.heap.size ≤ k := fun k e => by
    obtain ⟨us, _, u2, _⟩ := hown5;exact (u2.lt_ e).1
   have Hown6 := LH hown6;have Gi := LH gi;have Hsb := LH hsb;clear hown5 hown6 e6 e7 E1' hlA hlc gi hsb;go_wp2_with (go_at_call 69; refine Qf ?_);unfold Hid;refine Gi.out.mono ?_;rintro e w5 ⟨v5, rfl, hown5, hS5⟩;have hS45 : Qa (fun q => q < W2.heap.size) w4 w5 := (Hsb.out.mono fun _ _ _ => tv).trans (hS5.mono fun q _ hq e => by have := Hown6.out q e.symm; omega);have r1 := R1.out.keep hS45 (by omega);have R1 := LH r1;have hS05 : Qa (fun _ => True) w w5 := HS0.out.trans' hS45 fun q hq _ => by omega
   have HS5 := LH hS05;have Hown5 := LH hown5;clear r1 hS45 hS05 hown5 hS5 z1 Gi;go_wp2;have hlt : Aa.length < (Aa ++ QM x.key :: Z).length := by simp
   obtain ⟨g, n5, cap5, hv5, hn5, hc5, hm5, hBg, hg5, hfz⟩ := Hown5.out.head (by rw [List.length_append, List.length_cons]; omega);subst hv5;have hn5' : n5 = Aa.length + 1 + Z.length := by rw [hn5]; simp; omega
   obtain ⟨k2, k3, k4, k5, k6, k7, k8, k9, k10, k11, y2, y3, y4, y5, y6, y7, y8, y9, y10, y11⟩ := Hown5.out.at12 hlt;have q1 : (0 : Int) ≤ (Aa.length : Int) := by omega
   have q2 : (Aa.length : Int) < (n5 : Int) := by omega
   have f2 := hfz (Aa.length * 12 + 2);have f3 := hfz (Aa.length * 12 + 3);have f4 := hfz (Aa.length * 12 + 4);have f5 := hfz (Aa.length * 12 + 5);have f6 := hfz (Aa.length * 12 + 6);have f7 := hfz (Aa.length * 12 + 7);have f8 := hfz (Aa.length * 12 + 8);have f9 := hfz (Aa.length * 12 + 9);have f10 := hfz (Aa.length * 12 + 10);have f11 := hfz (Aa.length * 12 + 11);have r1 := R1.out;have m0 : w5.cell? ⟨w.heap.size + 1, 0, none⟩ = some (.int .i64 l.by_.node) := r1.cell 0;have m1 : w5.cell? ⟨w.heap.size + 1, 1, none⟩ = some (.int .i64 l.by_.life) := r1.cell 1;have m2 : w5.cell? ⟨w.heap.size + 1, 2, none⟩ = some (.int .i64 l.by_.seq) := r1.cell 2;have m3 : w5.cell? ⟨w.heap.size + 1, 3, none⟩ = some (.int .i64 l.by_.attempt) := r1.cell 3;have m4 : w5.cell? ⟨w.heap.size + 1, 4, none⟩ = some (.int .i64 l.home) := r1.cell 4;have m5 : w5.cell? ⟨w.heap.size + 1, 5, none⟩ = some (.int .i64 l.at_.wall) := r1.cell 5;have m6 : w5.cell? ⟨w.heap.size + 1, 6, none⟩ = some (.int .i64 l.at_.tie) := r1.cell 6;have m7 : w5.cell? ⟨w.heap.size + 1, 7, none⟩ = some (.bool x.drop) := r1.cell 7;have m8 : w5.cell? ⟨w.heap.size + 1, 8, none⟩ = some (.string (str x.data)) := r1.cell 8;have hne1 : g ≠ w.heap.size + 1 := by omega
   have z5 := r1.lt;clear r1 hfz hn5 hn5' hlt;go_region;go_wp2;go_ret;have hup := Hown5.out.upd (W := Q8 w5 g (Aa.length * 12 + 2) [.bool true, .int .i64 l.by_.node, .int .i64 l.by_.life, .int .i64 l.by_.seq, .int .i64 l.by_.attempt, .int .i64 l.home, .int .i64 l.at_.wall, .int .i64 l.at_.tie, .bool x.drop, .string (str x.data)]) (XJ x l) rfl (by rw [Zc, Hlk.out]);rw [E5.out];simp only [Q8] at hup;refine ⟨_, rfl, (hup.1.keepAll (SR.drew)).lower (by omega), ?_⟩;exact HS5.out.trans' hup.2.drew fun q hq _ => by omega
 ·rw [hd] at b1;have hlk : Qn (XJ x l) = [.int .i64 l.by_.node, .int .i64 l.by_.life, .int .i64 l.by_.seq, .int .i64 l.by_.attempt, .int .i64 l.home, .int .i64 l.at_.wall, .int .i64 l.at_.tie, .bool x.drop, .string ⟨#[]⟩] := by simp [UR, XJ, hd, str]
  have Hlk := LH hlk;have Hd := LH hd;clear hlk hd;go_wp2_with (go_at_call 67; refine Qf ?_);unfold Hid;have r1 := R1.out.set_ 8 (.string ⟨#[]⟩);have hS1 : Qa (fun q => q ≠ w.heap.size + 1) W1 (W1.setCell ⟨w.heap.size + 1, 8, none⟩ (.string ⟨#[]⟩)) := SR.setCell (fun _ h => h rfl) _;have hsz1 : (W1.setCell ⟨w.heap.size + 1, 8, none⟩ (.string ⟨#[]⟩)).heap.size = w.heap.size + 2 := by rw [← Hsz.out]; simp [World.setCell]
  generalize W1.setCell ⟨w.heap.size + 1, 8, none⟩ (.string ⟨#[]⟩) = W2 at *;have r1 : Row W2 (w.heap.size + 1) 30 [.int .i64 l.by_.node, .int .i64 l.by_.life, .int .i64 l.by_.seq, .int .i64 l.by_.attempt, .int .i64 l.home, .int .i64 l.at_.wall, .int .i64 l.at_.tie, .bool x.drop, .string ⟨#[]⟩] := r1;have r0 := R0.out.keep hS1 (by omega);have R0 := LH r0;have R1 := LH r1;have Hsz := LH hsz1;have hS2 : Qa (fun _ => True) w W2 := HS0.out.trans' hS1 fun q hq _ => by omega
  have HS0 := LH hS2;clear r0 r1 hS1 hsz1 hS2 b0;have hsz2 := Hsz.out;refine (Wa (.slice A cs.length cp) cs S W2 (Hv.out.keepAll HS0.out) hn Hn2.out).mono ?_;rintro e w3 ⟨v3, rfl, hown3, hS3⟩;obtain ⟨A3, n3, c3, rfl, hl3, hm3⟩ := hown3.form3;unfold maxLen at hm3;have r0 := R0.out.keep hS3 tv;have r1 := R1.out.keep hS3 tv;have b0 : w3.cell? ⟨w.heap.size, 0, none⟩ = some (.string (str x.key)) := r0.cell 0;have z1 := r1.lt;have R0 := LH r0;have R1 := LH r1;have Hown3 := LH hown3;have hS03 := HS0.out.trans hS3;have HS0 := LH hS03;have hz3 := hS3.size;clear r0 r1 hown3 hS3 hS03 b1 l8 f8;go_wp2_with (go_at_call 68; refine Qf ?_);unfold Hid;refine (ZF (.slice A3 n3 c3) cs x.key _ w3 Hown3.out.reads Hso.out (by omega)).mono ?_;rintro e w4 ⟨rfl, hS4⟩;rw [e6, e7];have r0 := R0.out.keep hS4 tv;have r1 := R1.out.keep hS4 tv;have b0 : w4.cell? ⟨w.heap.size, 0, none⟩ = some (.string (str x.key)) := r0.cell 0;have z1 := r1.lt;have R0 := LH r0;have R1 := LH r1;have hown4 := Hown3.out.keepAll hS4;rw [E1.out] at hown4;have hS04 := HS0.out.trans hS4;have HS0 := LH hS04;have hz4 := hS4.size;have hB : W2.heap.size ≤ w4.heap.size := by omega
  have Hown4 := LH hown4;clear r0 r1 hS4 hS04 hown4;cases o with
  | some c =>
   obtain ⟨w5, hw5⟩ : ∃ w5, w5 = w4 := ⟨_, rfl⟩;subst hw5;have hown5 := Hown4.out;simp only [Option.toList_some, List.singleton_append] at hown5;have Hown5 := LH hown5;have HS5 := HS0;rw [Option.getD_some] at E5;clear hown5 e6 e7 Hown4;go_wp2;have hlt : Aa.length < (Aa ++ c :: Z).length := by simp
   obtain ⟨g, n5, cap5, hv5, hn5, hc5, hm5, hBg, hg5, hfz⟩ := Hown5.out.head (by rw [List.length_append, List.length_cons]; omega);injection hv5 with hv5 hv6 hv7;subst hv5 hv6 hv7;have hn5' : n3 = Aa.length + 1 + Z.length := by rw [hn5]; simp; omega
   obtain ⟨k2, k3, k4, k5, k6, k7, k8, k9, k10, k11, y2, y3, y4, y5, y6, y7, y8, y9, y10, y11⟩ := Hown5.out.at12 hlt;have q1 : (0 : Int) ≤ (Aa.length : Int) := by omega
   have q2 : (Aa.length : Int) < (n3 : Int) := by omega
   have f2 := hfz (Aa.length * 12 + 2);have f3 := hfz (Aa.length * 12 + 3);have f4 := hfz (Aa.length * 12 + 4);have f5 := hfz (Aa.length * 12 + 5);have f6 := hfz (Aa.length * 12 + 6);have f7 := hfz (Aa.length * 12 + 7);have f8 := hfz (Aa.length * 12 + 8);have f9 := hfz (Aa.length * 12 + 9);have f10 := hfz (Aa.length * 12 + 10);have f11 := hfz (Aa.length * 12 + 11);have r1 := R1.out;have m0 : w5.cell? ⟨w.heap.size + 1, 0, none⟩ = some (.int .i64 l.by_.node) := r1.cell 0;have m1 : w5.cell? ⟨w.heap.size + 1, 1, none⟩ = some (.int .i64 l.by_.life) := r1.cell 1;have m2 : w5.cell? ⟨w.heap.size + 1, 2, none⟩ = some (.int .i64 l.by_.seq) := r1.cell 2;have m3 : w5.cell? ⟨w.heap.size + 1, 3, none⟩ = some (.int .i64 l.by_.attempt) := r1.cell 3;have m4 : w5.cell? ⟨w.heap.size + 1, 4, none⟩ = some (.int .i64 l.home) := r1.cell 4;have m5 : w5.cell? ⟨w.heap.size + 1, 5, none⟩ = some (.int .i64 l.at_.wall) := r1.cell 5;have m6 : w5.cell? ⟨w.heap.size + 1, 6, none⟩ = some (.int .i64 l.at_.tie) := r1.cell 6;have m7 : w5.cell? ⟨w.heap.size + 1, 7, none⟩ = some (.bool x.drop) := r1.cell 7;have m8 : w5.cell? ⟨w.heap.size + 1, 8, none⟩ = some (.string ⟨#[]⟩) := r1.cell 8;have hne1 : g ≠ w.heap.size + 1 := by omega
   have z5 := r1.lt;clear r1 hfz hn5 hn5' hlt;go_region;go_wp2;go_ret;have hup := Hown5.out.upd (W := Q8 w5 g (Aa.length * 12 + 2) [.bool true, .int .i64 l.by_.node, .int .i64 l.by_.life, .int .i64 l.by_.seq, .int .i64 l.by_.attempt, .int .i64 l.home, .int .i64 l.at_.wall, .int .i64 l.at_.tie, .bool x.drop, .string ⟨#[]⟩]) (XJ x l) rfl (by rw [Zc, Hlk.out]);rw [E5.out];simp only [Q8] at hup;refine ⟨_, rfl, (hup.1.keepAll (SR.drew)).lower (by omega), ?_⟩;exact HS5.out.trans' hup.2.drew fun q hq _ => by omega
  | none =>
   have hown5 := Hown4.out;simp only [Option.toList_none, List.nil_append] at hown5;have Hown4 := LH hown5;rw [Option.getD_none] at E5;have E1' : cs = Aa ++ Z := by have := E1.out; simpa using this
   have HE1 := LH E1';have hlA : Aa.length ≤ (Aa ++ Z).length := by simp
   have hlc : (Aa ++ Z).length ≤ 1000000 := by rw [← E1']; omega
   have hsb := (Qa.refl (fun _ => True) w4).alloc (.cells (Qj (.slice none 0 0, QM x.key)).toArray 64)
   have gi := UY (.slice A3 n3 c3) (Aa ++ Z) x.key Aa.length w4.heap.size W2.heap.size (w4.alloc (.cells (Qj (.slice none 0 0, QM x.key)).toArray 64)) (hown5.keepAll hsb) (Row.new _ _ _) (fun e => by
    obtain ⟨us, _, u2, _⟩ := hown5;have := (u2.lt_ e).2
    omega) hlA hlc (by have := hsb.size; omega)
   rw [List.take_left, List.drop_left] at gi
   have hown6 : ∀ k, (Value.slice A3 n3 c3).ownBlock = some k → W2.heap.size ≤ k := fun k e => by
    obtain ⟨us, _, u2, _⟩ := hown5;exact (u2.lt_ e).1
   have Hown6 := LH hown6;have Gi := LH gi;have Hsb := LH hsb;clear hown5 hown6 e6 e7 E1' hlA hlc gi hsb;go_wp2_with (go_at_call 69; refine Qf ?_);unfold Hid;refine Gi.out.mono ?_;rintro e w5 ⟨v5, rfl, hown5, hS5⟩;have hS45 : Qa (fun q => q < W2.heap.size) w4 w5 := (Hsb.out.mono fun _ _ _ => tv).trans (hS5.mono fun q _ hq e => by have := Hown6.out q e.symm; omega);have r1 := R1.out.keep hS45 (by omega);have R1 := LH r1;have hS05 : Qa (fun _ => True) w w5 := HS0.out.trans' hS45 fun q hq _ => by omega
   have HS5 := LH hS05;have Hown5 := LH hown5;clear r1 hS45 hS05 hown5 hS5 z1 Gi;go_wp2;have hlt : Aa.length < (Aa ++ QM x.key :: Z).length := by simp
   obtain ⟨g, n5, cap5, hv5, hn5, hc5, hm5, hBg, hg5, hfz⟩ := Hown5.out.head (by rw [List.length_append, List.length_cons]; omega);subst hv5;have hn5' : n5 = Aa.length + 1 + Z.length := by rw [hn5]; simp; omega
   obtain ⟨k2, k3, k4, k5, k6, k7, k8, k9, k10, k11, y2, y3, y4, y5, y6, y7, y8, y9, y10, y11⟩ := Hown5.out.at12 hlt;have q1 : (0 : Int) ≤ (Aa.length : Int) := by omega
   have q2 : (Aa.length : Int) < (n5 : Int) := by omega
   have f2 := hfz (Aa.length * 12 + 2);have f3 := hfz (Aa.length * 12 + 3);have f4 := hfz (Aa.length * 12 + 4);have f5 := hfz (Aa.length * 12 + 5);have f6 := hfz (Aa.length * 12 + 6);have f7 := hfz (Aa.length * 12 + 7);have f8 := hfz (Aa.length * 12 + 8);have f9 := hfz (Aa.length * 12 + 9);have f10 := hfz (Aa.length * 12 + 10);have f11 := hfz (Aa.length * 12 + 11);have r1 := R1.out;have m0 : w5.cell? ⟨w.heap.size + 1, 0, none⟩ = some (.int .i64 l.by_.node) := r1.cell 0;have m1 : w5.cell? ⟨w.heap.size + 1, 1, none⟩ = some (.int .i64 l.by_.life) := r1.cell 1;have m2 : w5.cell? ⟨w.heap.size + 1, 2, none⟩ = some (.int .i64 l.by_.seq) := r1.cell 2;have m3 : w5.cell? ⟨w.heap.size + 1, 3, none⟩ = some (.int .i64 l.by_.attempt) := r1.cell 3;have m4 : w5.cell? ⟨w.heap.size + 1, 4, none⟩ = some (.int .i64 l.home) := r1.cell 4;have m5 : w5.cell? ⟨w.heap.size + 1, 5, none⟩ = some (.int .i64 l.at_.wall) := r1.cell 5;have m6 : w5.cell? ⟨w.heap.size + 1, 6, none⟩ = some (.int .i64 l.at_.tie) := r1.cell 6;have m7 : w5.cell? ⟨w.heap.size + 1, 7, none⟩ = some (.bool x.drop) := r1.cell 7;have m8 : w5.cell? ⟨w.heap.size + 1, 8, none⟩ = some (.string ⟨#[]⟩) := r1.cell 8;have hne1 : g ≠ w.heap.size + 1 := by omega
   have z5 := r1.lt;clear r1 hfz hn5 hn5' hlt;go_region;go_wp2;go_ret;have hup := Hown5.out.upd (W := Q8 w5 g (Aa.length * 12 + 2) [.bool true, .int .i64 l.by_.node, .int .i64 l.by_.life, .int .i64 l.by_.seq, .int .i64 l.by_.attempt, .int .i64 l.home, .int .i64 l.at_.wall, .int .i64 l.at_.tie, .bool x.drop, .string ⟨#[]⟩]) (XJ x l) rfl (by rw [Zc, Hlk.out]);rw [E5.out];simp only [Q8] at hup;refine ⟨_, rfl, (hup.1.keepAll (SR.drew)).lower (by omega), ?_⟩;exact HS5.out.trans' hup.2.drew fun q hq _ => by omega
section
variable {P : Program} {t e : TypeId} {size bytes : Nat} {z : Value}
theorem Qbi (T : SlT P t e size bytes z) (w : World) (ty : TypeId) (base : Nat) (v : Value) (n : Nat) (xs : List Value) (hown : w.ownsRow base e size v n xs)
  (S : Nat → Prop) (A : Option Addr) (m c : Nat) (news : List Value) (hr : Sl w S size A m news) (h1 : ∀ u ∈ news, u.oneCell' = true)
  (h63 : n + m ≤ maxLen) (hbytes : (n + m) * bytes ≤ 140737488355328) (hbase : base ≤ w.heap.size) :
  ∃ v' w', (Builtin.append_ #[t, t] ty #[v, .slice A m c]).run P w = .ok v' w' ∧ w'.ownsRow base e size v' (n + m) (xs ++ news) ∧ Qa (fun k => some k ≠ v.ownBlock) w w' := by
 obtain ⟨i, hi, hz, h4, h5⟩ := info_parts T.info;rcases A with _ | ad
 ·have hm : m = 0 := by
   rcases Nat.eq_zero_or_pos m with h0 | h0
   ·exact h0
   ·obtain ⟨ad, h, _⟩ := hr.2 h0;cases h
  subst hm;have hn : news = [] := List.eq_nil_of_length_eq_zero (by simpa using hr.1);subst hn;refine ⟨v, w, ?_, by simpa using hown, Qa.refl _ _⟩;rcases hown.2 with ⟨rfl, rfl⟩ | ⟨g, cap, cur, rfl, _, _, hnc, _⟩
  ·simp [Builtin.append_, run_underlying T.und, sizeOf, typeInfo, hi, Builtin.lenOf, Builtin.firstCells]
  ·simp [Builtin.append_, run_underlying T.und, sizeOf, typeInfo, hi, Builtin.lenOf, Builtin.firstCells, hnc, storeCells]
 ·have hcells : ∀ j u, news[j]? = some u → w.cell? (ad.add j) = some u := by
   intro j u hu;rcases Nat.eq_zero_or_pos m with h0 | h0
   ·subst h0;have hn : news = [] := List.eq_nil_of_length_eq_zero (by simpa using hr.1);subst hn;simp at hu
   ·obtain ⟨ad', h, _, hc⟩ := hr.2 h0;injection h with h;subst h;exact hc j u hu
  obtain ⟨v', w', hrun, h2, h3, _, _⟩ := run_append_own_at (P := P) w base t ty e i z size bytes T.und hi hz h4 h5 T.zs T.pos v n xs hown ad m c news hr.1 hcells h1 h63 hbytes hbase;exact ⟨v', w', hrun, h2, Qa.ofGrown h3⟩
theorem Q6 {α : Type} {f : α → List Value} (T : SlT P t e size bytes z) (hf : ∀ x, (f x).length = size) {w : World} {ops : Array Oper} {o : Oper} {a : Act} {K : Act → World → Prop} {Q : Exit → Act → World → Prop} {E : Prop} (hgd : o.guard = none) (s x : Operand)
  (ho : o.op = .call { callee := .builtin .append, args := #[s, x], argTypes := #[t, t] }) {B : Nat} {v : Value} {l l2 : List α} {S : Nat → Prop} {A : Option Addr} {m c : Nat}
  (hs : a.eval s = v) (hx : a.eval x = .slice A m c) (hown : Qg f size e w B v l) (hr : Sl w S size A m (l2.flatMap f)) (hm : m = l2.length) (h1 : ∀ y ∈ l2, ∀ u ∈ f y, u.oneCell' = true) (hB : B ≤ w.heap.size) (hlen : l.length + m ≤ 1000001) (hb : bytes ≤ 1000)
  (h : ∀ v' w', Hid (Qg f size e w' B v' (l ++ l2)) → Hid (Qa (fun k => some k ≠ v.ownBlock) w w') → K (a.put o.dst v') w') : if Region.wanted o (yielded ops a.tmps) = true then Oper.wp P o a w K Q else E := by
 subst hm;have hbb : (l.length + l2.length) * bytes ≤ 140737488355328 := Nat.le_trans (Nat.mul_le_mul hlen hb) (by decide)
 obtain ⟨v', w', hrun, h2, h3⟩ := Qbi T w o.type B v l.length (l.flatMap f) hown S A l2.length c (l2.flatMap f) hr (fun u hu => by
  obtain ⟨y, hy, hu⟩ := List.mem_flatMap.1 hu
  exact h1 y hy u hu) (by simp only [maxLen]; omega) hbb hB
 have hw : Region.wanted o (yielded ops a.tmps) = true := by simp [Region.wanted, hgd]
 rw [if_pos hw];unfold Oper.wp execOp;simp only [ho, resolve, invoke, builtin, Sem.run_bind, Sem.run_pure, Result.andThen_ok, List.map_toArray, List.map_cons, List.map_nil, hs, hx, hrun];refine h v' w' (LH ?_) (LH h3);unfold Qg;rw [List.length_append, List.flatMap_append];exact h2
end
theorem Zx {α : Type} (f : α → List Value) (n : Nat) {e : TypeId} {w : World} {B N : Nat} (h : w.heap[N]? = some (.cells #[] e (0, 0))) (hB : B ≤ N) : Qg f n e w B (.slice (some ⟨N, 0, none⟩) 0 0) [] :=
 ⟨by simp, .inr ⟨N, 0, #[], rfl, hB, h, by simp, by simp [maxLen], by simp, by simp⟩⟩
theorem ZZ {w : World} {X : Nat} {q : Value × Cel} (h : Row w X 64 (Qj q)) : Sl w (fun _ => True) 12 (some ⟨X, 0, none⟩) 1 (([q] : List (Value × Cel)).flatMap Qj) := by
 have hsl := h.sl (size := 12) (off := 0) (n := 1) (by rw [Qp]; omega);rw [List.drop_zero, List.take_of_length_le (by rw [Qp]; omega)] at hsl;have : ([q] : List (Value × Cel)).flatMap Qj = Qj q := by simp
 rw [this];exact hsl.mono (fun _ _ _ => tv)
theorem Wl {us : List Value} {cs : List Cel} (h : us.length = cs.length) (hs : ∀ i (h : i < cs.length) (h' : i < us.length), ∃ A n c, us[i] = .slice A n c) : ∀ y ∈ us.zip cs, ∀ u ∈ Qj y, u.oneCell' = true := by
 intro y hy;obtain ⟨j, hj, rfl⟩ := List.mem_iff_getElem.1 hy;have hj' : j < cs.length := by simp at hj; omega
 obtain ⟨A, n, c, e⟩ := hs j hj' (by omega);rw [List.getElem_zip, e];exact Xy _
end Go.Proofs.Ytoldelocfmpccaa
