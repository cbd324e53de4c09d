/-
  Words, plain models, laws and walks that the claims of this layer share (joined by shake.py). No condition.
-/
import Derived.StillTail
import Derived.Test.YtoldelocfmpccaaX6
set_option linter.unusedSimpArgs false
set_option linter.unusedVariables false
namespace Go.Proofs.Ytoldelocfmpccaa
open Go.RowKit
set_option maxRecDepth 100000 in
set_option maxHeartbeats 8000000 in
theorem Un (v : Value) (cs : List Cel) (S : Nat → Prop) (w : World) (hv : QU w S v cs) (hn : cs.length ≤ 100000) (hn2 : ∀ c ∈ cs, c.vers.length ≤ 1000000) :
  Calls Try.prog 31 #[v] w (JE cs w) := by
 obtain ⟨A, cp, rfl, hc, hm⟩ := hv.form;have Hv := LH hv;have Hn2 := LH hn2;unfold maxLen at hm;clear hv hn2;go_enter Try.func31, Try.ntmps31;go_wp2;go_loopw [3, 4, 5, 6, 9, 63] (fun _ _ _ _ i _ wr => ∃ k : Nat, i = .int .i64 k ∧ k ≤ cs.length ∧ Zb (cs.take k) ∧ Qa (fun _ => True) w wr) (fun _ _ _ _ i _ _ => cs.length - (intOf i).toNat)
 case atStart => exact ⟨0, rfl, Nat.zero_le _, YD, Qa.refl _ _⟩
 case round =>
  obtain ⟨k, rfl, hk, hG, hS⟩ := hrel;obtain ⟨wo, rfl⟩ : ∃ wo : World, wo = wr := ⟨_, rfl⟩;have HS := LH hS;have HG := LH hG;clear hG;by_cases hlt : k < cs.length
  ·obtain ⟨ad, u, rfl, -, hvr, c0, c1, c2, c3, c4, c5, c6, c7, c8, c9, c10, c11⟩ := QU.cells12 (Hv.out.keepAll hS) hlt;obtain ⟨Au, cu, rfl, hq1, hq2⟩ := hvr.form;unfold maxLen at hq2;have x1 : (0 : Int) ≤ (k : Int) := by omega
   have x2 : (k : Int) < (cs.length : Int) := by omega
   have hab := World.block_lt_of_cell? wo _ c0;have hcl := Hn2.out cs[k] (List.getElem_mem hlt);clear hS;have hng := fun h => Yh hlt rfl h
   have hnx := fun h1 h => KF hlt HG.out h1 h
   have hkw : k = 0 ∨ ∃ i pk, i + 1 = k ∧ (ltB pk cs[k].key = false → ¬ Zb cs) ∧ (ltB pk cs[k].key = true → Y3 cs k cs[k].key) ∧ wo.cell? (ad.add (i * 12)) = some (.string (str pk)) := by
    rcases Nat.eq_zero_or_pos k with h | h
    ·exact .inl h
    ·obtain ⟨i, rfl⟩ : ∃ i, k = i + 1 := ⟨k - 1, by omega⟩;obtain ⟨adp, up, ep, -, -, cp0, -⟩ := QU.cells12 (Hv.out.keepAll HS.out) (i := i) (by omega);injection ep with ep;subst ep;refine .inr ⟨i, _, rfl, fun h => Yx (cs := cs) (i := i) hlt h, fun h j pc hj hpc => ?_, cp0⟩;have e : j = i := (by omega);subst e;rw [List.getElem?_eq_getElem (by omega)] at hpc;injection hpc with hpc;rw [← hpc];exact h
   obtain ⟨c, hck⟩ : ∃ c, c = cs[k] := ⟨_, rfl⟩;rw [← hck] at c0 c1 c2 c3 c4 c5 c6 c7 c8 c9 c10 c11 hvr hcl hng hnx hkw;have Hvr := LH hvr;have Hng := LH hng;have Hnx := LH hnx;have Hkw := LH hkw;clear hvr hck hng hnx hkw;go_wp2;have r1 := Row.new wo 64 [.string (str c.key), .slice Au c.vers.length cu, .bool c.locked, .int .i64 c.lock.by_.node, .int .i64 c.lock.by_.life, .int .i64 c.lock.by_.seq, .int .i64 c.lock.by_.attempt, .int .i64 c.lock.home, .int .i64 c.lock.at_.wall, .int .i64 c.lock.at_.tie, .bool c.lock.drop, .string (str c.lock.data)];have hS7 := (Qa.refl (fun _ => True) wo).alloc (.cells ([.string (str c.key), .slice Au c.vers.length cu, .bool c.locked, .int .i64 c.lock.by_.node, .int .i64 c.lock.by_.life, .int .i64 c.lock.by_.seq, .int .i64 c.lock.by_.attempt, .int .i64 c.lock.home, .int .i64 c.lock.at_.wall, .int .i64 c.lock.at_.tie, .bool c.lock.drop, .string (str c.lock.data)] : List Value).toArray 64);clear c0 c1 c2 c3 c4 c5 c6 c7 c8 c9 c10 c11;revert r1 hS7;generalize wo.alloc (.cells _ 64) = W7;intro r1 hS7;obtain ⟨a0, a1, a2, a3, a4, a5, a6, a7, a8, a9, a10, a11, -⟩ := QD r1;have HS7 := LH hS7;have Hbox7 := LH r1;clear r1 hS7;go_cut [9, 59] from 9 to 93 (fun i9 c59 wx => i9 = .int .i64 (k : Int) ∧ ∃ b : Bool, c59 = .bool b ∧ (∃ nq, wx = W7.drewN nq) ∧ (b = true → ¬ Zb cs) ∧ (b = false → Y3 cs k c.key ∧ (c.locked = false → c.lock = Lck.zero) ∧ Qv c = true ∧ (c.lock.drop = true → c.lock.data = [])))
   case first =>
    rcases Hkw.out with hk0 | ⟨i, pk, hi, hnk, hk1, cp0⟩
    ·have y3 : decide ((0 : Int) < (k : Int)) = false := by simp; omega
     have y4 : decide (0 < k) = false := by simp; omega
     have HLO := LH (show Y3 cs k c.key by rw [hk0]; exact Vz _ _);clear hk0;cases hl : c.locked
     ·rw [hl] at a2;by_cases hz : c.lock = Lck.zero
      ·rw [hz] at a3 a4 a5 a6 a7 a8 a9 a10 a11;simp only [Lck.zero] at a3 a4 a5 a6 a7 a8 a9 a10 a11;have a11x : W7.cell? ⟨wo.heap.size, 11, none⟩ = some (.string ⟨#[]⟩) := a11;by_cases hv0 : c.vers = []
       ·have ng : ¬ Zi c := fun g => by
         have := g.kept;unfold Qv at this;rw [hl, hv0] at this;simp at this
        have NGH := LH (Hng.out ng);have h1 : ((c.vers.length : Int) == 0) = true := by rw [hv0]; rfl
        have h2 : (c.vers.length : Int) = 0 := by rw [hv0]; rfl
        clear hl hz hv0 a11 ng;go_quiet (fail);rename_i nq;go_wp2;go_meet;exact ⟨rfl, true, rfl, ⟨nq, rfl⟩, fun _ => NGH.out, (fun h => nomatch h)⟩
       ·have h0 : (0 : Int) < (c.vers.length : Int) := by
         have := List.length_pos_iff.2 hv0;omega
        have h1 : ((c.vers.length : Int) == 0) = false := by simp; intro e; rw [e] at h0; simp at h0
        have g2 : Qv c = true := by unfold Qv; rw [hl]; simp [hv0]
        have GF := LH (show (c.locked = false → c.lock = Lck.zero) ∧ Qv c = true ∧ (c.lock.drop = true → c.lock.data = []) from ⟨fun _ => hz, g2, fun h => by rw [hz]; rfl⟩);clear hl hz hv0 a11 g2;go_quiet (fail);rename_i nq;go_wp2;go_meet;exact ⟨rfl, false, rfl, ⟨nq, rfl⟩, (fun h => nomatch h), fun _ => ⟨HLO.out, GF.out.1, GF.out.2.1, GF.out.2.2⟩⟩
      ·have ng : ¬ Zi c := fun g => hz (g.free hl)
       have NGH := LH (Hng.out ng);have qz := J7 hz;have qz : ∀ w, (binOp .neq 30 (Q4 c.lock) (.agg #[.int .i64 0, .int .i64 0, .int .i64 0, .int .i64 0, .int .i64 0, .int .i64 0, .int .i64 0, .bool false, .string ⟨#[]⟩])).run Try.prog w = .ok (.bool true) w := qz;clear hl hz ng;go_quiet (fail);rename_i nq;go_wp2;go_meet;exact ⟨rfl, true, rfl, ⟨nq, rfl⟩, fun _ => NGH.out, (fun h => nomatch h)⟩
     ·rw [hl] at a2;have g2 : Qv c = true := by unfold Qv; rw [hl]; rfl
      have g1 : c.locked = false → c.lock = Lck.zero := fun h => by rw [hl] at h; cases h
      cases hd : c.lock.drop
      ·rw [hd] at a10;have GF := LH (show (c.locked = false → c.lock = Lck.zero) ∧ Qv c = true ∧ (c.lock.drop = true → c.lock.data = []) from ⟨g1, g2, fun h => by rw [hd] at h; cases h⟩);clear hl hd g1 g2;go_quiet (fail);rename_i nq;go_wp2;go_meet;exact ⟨rfl, false, rfl, ⟨nq, rfl⟩, (fun h => nomatch h), fun _ => ⟨HLO.out, GF.out.1, GF.out.2.1, GF.out.2.2⟩⟩
      ·rw [hd] at a10;by_cases hdt : c.lock.data = []
       ·rw [hdt] at a11;have a11x : W7.cell? ⟨wo.heap.size, 11, none⟩ = some (.string ⟨#[]⟩) := a11;have GF := LH (show (c.locked = false → c.lock = Lck.zero) ∧ Qv c = true ∧ (c.lock.drop = true → c.lock.data = []) from ⟨g1, g2, fun _ => hdt⟩);clear hl hd hdt a11 g1 g2;go_quiet (fail);rename_i nq;go_wp2;go_meet;exact ⟨rfl, false, rfl, ⟨nq, rfl⟩, (fun h => nomatch h), fun _ => ⟨HLO.out, GF.out.1, GF.out.2.1, GF.out.2.2⟩⟩
       ·have ng : ¬ Zi c := fun g => hdt (g.lock hd)
        have NGH := LH (Hng.out ng);have qd : ¬ (str c.lock.data).toList = [] := by rw [ByteArray.toList_eq]; exact hdt
        have qd2 : ((str c.lock.data).toList == []) = false := by simpa using qd
        clear hl hd hdt ng g1 g2;go_quiet (fail);rename_i nq;go_wp2;go_meet;exact ⟨rfl, true, rfl, ⟨nq, rfl⟩, fun _ => NGH.out, (fun h => nomatch h)⟩
    ·have y1 : (0 : Int) ≤ (i : Int) := by omega
     have y2 : (i : Int) < (cs.length : Int) := by omega
     have y3 : decide ((0 : Int) < (k : Int)) = true := by simp; omega
     have y4 : 0 < k := by omega
     have y5 : decide (0 < k) = true := by simp; omega
     have y6 : IntKind.i64.wrap ((k : Int) - 1) = (i : Int) := by rw [IntKind.wrap_i64]; omega
     have cp0 := HS7.out.cell (p := (ad.add (i * 12))) tv cp0;cases hlo : ltB pk c.key
     ·have NGH := LH (hnk hlo);have q1 := ZK c.key pk
      have q3 : (Op.bytesLess (str c.key).toList (str pk).toList || (str c.key).toList == (str pk).toList) = true := by
       rw [q1, ByteArray.toList_eq, ByteArray.toList_eq];rcases YH pk c.key with h | h | h
       ·rw [h] at hlo; cases hlo
       ·rw [h]; simp
       ·rw [h]; rfl
      clear q1;clear hlo hnk hk1 hi;go_quiet (fail);rename_i nq;go_wp2;go_meet;exact ⟨rfl, true, rfl, ⟨nq, rfl⟩, fun _ => NGH.out, (fun h => nomatch h)⟩
     ·have HLO := LH (hk1 hlo);have q1 := ZK c.key pk
      have q3 : (Op.bytesLess (str c.key).toList (str pk).toList || (str c.key).toList == (str pk).toList) = false := by
       rw [q1, J4 hlo, Bool.false_or, ByteArray.toList_eq, ByteArray.toList_eq];have := VG hlo;simpa [str] using fun e => this e.symm
      clear q1;clear hlo hnk hk1 hi;cases hl : c.locked
      ·rw [hl] at a2;by_cases hz : c.lock = Lck.zero
       ·rw [hz] at a3 a4 a5 a6 a7 a8 a9 a10 a11;simp only [Lck.zero] at a3 a4 a5 a6 a7 a8 a9 a10 a11;have a11x : W7.cell? ⟨wo.heap.size, 11, none⟩ = some (.string ⟨#[]⟩) := a11;by_cases hv0 : c.vers = []
        ·have ng : ¬ Zi c := fun g => by
          have := g.kept;unfold Qv at this;rw [hl, hv0] at this;simp at this
         have NGH := LH (Hng.out ng);have h1 : ((c.vers.length : Int) == 0) = true := by rw [hv0]; rfl
         have h2 : (c.vers.length : Int) = 0 := by rw [hv0]; rfl
         clear hl hz hv0 a11 ng;go_quiet (fail);rename_i nq;go_wp2;go_meet;exact ⟨rfl, true, rfl, ⟨nq, rfl⟩, fun _ => NGH.out, (fun h => nomatch h)⟩
        ·have h0 : (0 : Int) < (c.vers.length : Int) := by
          have := List.length_pos_iff.2 hv0;omega
         have h1 : ((c.vers.length : Int) == 0) = false := by simp; intro e; rw [e] at h0; simp at h0
         have g2 : Qv c = true := by unfold Qv; rw [hl]; simp [hv0]
         have GF := LH (show (c.locked = false → c.lock = Lck.zero) ∧ Qv c = true ∧ (c.lock.drop = true → c.lock.data = []) from ⟨fun _ => hz, g2, fun h => by rw [hz]; rfl⟩);clear hl hz hv0 a11 g2;go_quiet (fail);rename_i nq;go_wp2;go_meet;exact ⟨rfl, false, rfl, ⟨nq, rfl⟩, (fun h => nomatch h), fun _ => ⟨HLO.out, GF.out.1, GF.out.2.1, GF.out.2.2⟩⟩
       ·have ng : ¬ Zi c := fun g => hz (g.free hl)
        have NGH := LH (Hng.out ng);have qz := J7 hz;have qz : ∀ w, (binOp .neq 30 (Q4 c.lock) (.agg #[.int .i64 0, .int .i64 0, .int .i64 0, .int .i64 0, .int .i64 0, .int .i64 0, .int .i64 0, .bool false, .string ⟨#[]⟩])).run Try.prog w = .ok (.bool true) w := qz;clear hl hz ng;go_quiet (fail);rename_i nq;go_wp2;go_meet;exact ⟨rfl, true, rfl, ⟨nq, rfl⟩, fun _ => NGH.out, (fun h => nomatch h)⟩
      ·rw [hl] at a2;have g2 : Qv c = true := by unfold Qv; rw [hl]; rfl
       have g1 : c.locked = false → c.lock = Lck.zero := fun h => by rw [hl] at h; cases h
       cases hd : c.lock.drop
       ·rw [hd] at a10;have GF := LH (show (c.locked = false → c.lock = Lck.zero) ∧ Qv c = true ∧ (c.lock.drop = true → c.lock.data = []) from ⟨g1, g2, fun h => by rw [hd] at h; cases h⟩);clear hl hd g1 g2;go_quiet (fail);rename_i nq;go_wp2;go_meet;exact ⟨rfl, false, rfl, ⟨nq, rfl⟩, (fun h => nomatch h), fun _ => ⟨HLO.out, GF.out.1, GF.out.2.1, GF.out.2.2⟩⟩
       ·rw [hd] at a10;by_cases hdt : c.lock.data = []
        ·rw [hdt] at a11;have a11x : W7.cell? ⟨wo.heap.size, 11, none⟩ = some (.string ⟨#[]⟩) := a11;have GF := LH (show (c.locked = false → c.lock = Lck.zero) ∧ Qv c = true ∧ (c.lock.drop = true → c.lock.data = []) from ⟨g1, g2, fun _ => hdt⟩);clear hl hd hdt a11 g1 g2;go_quiet (fail);rename_i nq;go_wp2;go_meet;exact ⟨rfl, false, rfl, ⟨nq, rfl⟩, (fun h => nomatch h), fun _ => ⟨HLO.out, GF.out.1, GF.out.2.1, GF.out.2.2⟩⟩
        ·have ng : ¬ Zi c := fun g => hdt (g.lock hd)
         have NGH := LH (Hng.out ng);have qd : ¬ (str c.lock.data).toList = [] := by rw [ByteArray.toList_eq]; exact hdt
         have qd2 : ((str c.lock.data).toList == []) = false := by simpa using qd
         clear hl hd hdt ng g1 g2;go_quiet (fail);rename_i nq;go_wp2;go_meet;exact ⟨rfl, true, rfl, ⟨nq, rfl⟩, fun _ => NGH.out, (fun h => nomatch h)⟩
   case rest =>
    obtain ⟨rfl, cb, rfl, ⟨nq, rfl⟩, hbt, hbf⟩ := hcut;cases cb
    case true =>
     have NGH := LH (hbt rfl);have HS8 := LH (HS7.out.drewN nq);generalize W7.drewN nq = W8 at *;clear hbt hbf a0 a1 a2 a3 a4 a5 a6 a7 a8 a9 a10 a11;go_wp2;go_ret;exact JE.no NGH.out (HS.out.trans HS8.out)
    obtain ⟨hfk, hf1, hf2, hf3⟩ := hbf rfl;clear hbt hbf;have Hnx := LH (Hnx.out hfk);clear hfk;have HF1 := LH hf1;have HF2 := LH hf2;have HF3 := LH hf3;clear hf1 hf2 hf3;have hS8 := HS7.out.drewN nq;have hbox8 := Hbox7.out.keep ((Qa.refl (fun _ => True) W7).drewN nq) tv;generalize W7.drewN nq = W8 at *;have a1 : W8.cell? ⟨wo.heap.size, 1, none⟩ = some (.slice Au c.vers.length cu) := hbox8.cell 1;have HS8 := LH hS8;have Hbox8 := LH hbox8;clear hS8 hbox8 a0 a2 a3 a4 a5 a6 a7 a8 a9 a10 a11;go_wp2;go_loopw [5, 6, 63] (fun _ _ i wi => ∃ j : Nat, i = .int .i64 j ∧ j ≤ c.vers.length ∧ XU (c.vers.take j) ∧ YC (c.vers.take j) ∧ Qa (fun _ => True) W8 wi) (fun _ _ i _ => c.vers.length - (intOf i).toNat)
    case atStart => exact ⟨0, rfl, Nat.zero_le _, JZ.1, JZ.2, Qa.refl _ _⟩
    case round =>
     obtain ⟨j, rfl, hj, hso, hcl2, hSi⟩ := hrel;have HSi := LH hSi;have Hso := LH hso;have Hcl := LH hcl2;have a1 : wr.cell? ⟨wo.heap.size, 1, none⟩ = some (.slice Au c.vers.length cu) := (Hbox8.out.keep hSi tv).cell 1;have z7 := (Hbox8.out.keep hSi tv).lt;clear hSi hso hcl2;by_cases hjl : j < c.vers.length
     ·rcases j with _ | i2
      ·obtain ⟨ad2, rfl, -, d0, d1, d2, d3⟩ := Zl.cells (Qw.keepAll Hvr.out (HS8.out.trans HSi.out)) hjl;have hym : c.vers[0] ∈ c.vers := List.getElem_mem hjl;have hvn := fun h1 => J5 hjl Hso.out Hcl.out h1
       have hvn : (c.vers[0].drop = true → c.vers[0].data = []) → True → XU (c.vers.take 1) ∧ YC (c.vers.take 1) := fun h1 _ => hvn h1 (fun i h => by omega)
       have x3 : (0 : Int) ≤ ((0 : Nat) : Int) := by omega
       have x4 : ((0 : Nat) : Int) < (c.vers.length : Int) := by omega
       simp only [Nat.zero_mul, add_zero] at d0 d1 d2 d3;have hab2 := World.block_lt_of_cell? wr _ d0;have Hvn := LH hvn;have HyM := LH hym;clear hvn hym;go_wp2;have rv := Row.new wr 69 (Qz c.vers[0]);have hS9 := (Qa.refl (fun _ => True) wr).alloc (.cells (Qz c.vers[0]).toArray 69);simp only [Qz] at rv hS9;clear d0 d1 d2 d3 hab2;revert rv hS9;generalize wr.alloc (.cells _ 69) = W9;intro rv hS9;have b0 : W9.cell? ⟨wr.heap.size, 0, none⟩ = some (.int .i64 c.vers[0].at_.wall) := rv.cell 0;have b1 : W9.cell? ⟨wr.heap.size, 1, none⟩ = some (.int .i64 c.vers[0].at_.tie) := rv.cell 1;have b2 : W9.cell? ⟨wr.heap.size, 2, none⟩ = some (.bool c.vers[0].drop) := rv.cell 2;have b3 : W9.cell? ⟨wr.heap.size, 3, none⟩ = some (.string (str c.vers[0].data)) := rv.cell 3;have z9 := rv.lt;have a1 := MC a1 hS9 tv;have HS9 := LH hS9;clear rv hS9;generalize c.vers[0] = y at *;cases hdr : y.drop
       ·rw [hdr] at b2;have hVD : y.drop = true → y.data = [] := fun h => by rw [hdr] at h; cases h
        have HVD := LH hVD;clear hVD hdr;go_wp2;refine Qi (vs := [(.int .i64 0), (.bool false), (.bool false), undef, undef, undef, undef, undef, undef, undef, undef, undef, undef, undef, (.bool false), (.bool false), (.pointer (some ⟨wr.heap.size, 2, none⟩)), (.bool false), (.bool false), undef, undef, undef, (.bool false), (.bool false)]) (by kernel_rfl) (by kernel_rfl) rfl rfl ?_ ?_
        ·refine ⟨?_, ?_, ?_, ?_, ?_, ?_, ?_, ?_, ?_, ?_, ?_, ?_, ?_, ?_, ?_, ?_, ?_, ?_, ?_, ?_, ?_, ?_, ?_, ?_, tv⟩
         all_goals intro ac wc hs hd hz hf hw K hK
         ·have e0 := EV 5 (.int .i64 0) (hf 5 rfl);clear hd hz hf hw;simp only [if_true, RL, e0];go_simp;exact hK _ _ rfl SR
         ·have e0 := EV 68 (.int .i64 0) (hw 0 rfl);clear hd hz hf hw;simp only [if_true, RL, e0];go_simp;exact hK _ _ rfl SR
         ·have e0 := EV 69 (.bool false) (hw 1 rfl);clear hd hz hf hw;simp only [if_true, RL, e0];go_simp;exact hK _ _ rfl SR
         ·refine SW 2 70 false hz (hw 2 rfl) ?_;exact hK _ _ rfl SR
         ·refine SW 2 70 false hz (hw 2 rfl) ?_;exact hK _ _ rfl SR
         ·refine SW 2 70 false hz (hw 2 rfl) ?_;exact hK _ _ rfl SR
         ·refine SW 2 70 false hz (hw 2 rfl) ?_;exact hK _ _ rfl SR
         ·refine SW 2 70 false hz (hw 2 rfl) ?_;exact hK _ _ rfl SR
         ·refine SW 2 70 false hz (hw 2 rfl) ?_;exact hK _ _ rfl SR
         ·refine SW 2 70 false hz (hw 2 rfl) ?_;exact hK _ _ rfl SR
         ·refine SW 2 70 false hz (hw 2 rfl) ?_;exact hK _ _ rfl SR
         ·refine SW 2 70 false hz (hw 2 rfl) ?_;exact hK _ _ rfl SR
         ·refine SW 2 70 false hz (hw 2 rfl) ?_;exact hK _ _ rfl SR
         ·refine SW 2 70 false hz (hw 2 rfl) ?_;exact hK _ _ rfl SR
         ·have e0 := EV 70 (.bool false) (hw 2 rfl);have e1 := EV 81 undef (hw 13 rfl);clear hd hz hf hw;simp only [if_true, RL, e0, e1];go_simp;exact hK _ _ rfl SR
         ·have e0 := EV 82 (.bool false) (hw 14 rfl);clear hd hz hf hw;simp only [if_true, RL, e0];go_simp;exact hK _ _ rfl SR
         ·refine RW 15 83 false hz (hw 15 rfl) ?_;have e0 := EP 6 wr.heap.size 0 (hf 6 rfl);clear hd hz hf hw;simp only [RL, e0];go_simp;exact hK _ _ rfl SR
         ·refine RW 15 83 false hz (hw 15 rfl) ?_;have e0 := EP 84 wr.heap.size 2 (hw 16 rfl);have m0 := MC b2 hs tv;clear hd hz hf hw;simp only [RL, e0];go_simp;exact hK _ _ rfl SR
         ·refine RW 15 83 false hz (hw 15 rfl) ?_;have e0 := EV 85 (.bool false) (hw 17 rfl);clear hd hz hf hw;simp only [RL, e0];go_simp;exact hK _ _ rfl SR
         ·refine SW 18 86 false hz (hw 18 rfl) ?_;exact hK _ _ rfl SR
         ·refine SW 18 86 false hz (hw 18 rfl) ?_;exact hK _ _ rfl SR
         ·refine SW 18 86 false hz (hw 18 rfl) ?_;exact hK _ _ rfl SR
         ·refine RW 15 83 false hz (hw 15 rfl) ?_;have e0 := EV 86 (.bool false) (hw 18 rfl);have e1 := EV 89 undef (hw 21 rfl);clear hd hz hf hw;simp only [RL, e0, e1];go_simp;exact hK _ _ rfl SR
         ·have e0 := EV 83 (.bool false) (hw 15 rfl);have e1 := EV 90 (.bool false) (hw 22 rfl);clear hd hz hf hw;simp only [if_true, RL, e0, e1];go_simp;exact hK _ _ rfl SR
        ·intro wR hsR;simp only [Qk, Act.put, LP];go_wp2;go_roundw
         case rel => exact ⟨1, by go_num, by omega, (Hvn.out HVD.out (tv)).1, (Hvn.out HVD.out (tv)).2, (HSi.out.trans HS9.out).trans hsR⟩
         case measure => simp [intOf]; omega
       ·rw [hdr] at b2;by_cases hdt : y.data = []
        ·have hVD : y.drop = true → y.data = [] := fun _ => hdt
         rw [hdt] at b3;have b3 : W9.cell? ⟨wr.heap.size, 3, none⟩ = some (.string ⟨#[]⟩) := b3;have HVD := LH hVD;clear hVD hdr hdt;go_wp2;refine Qi (vs := [(.int .i64 0), (.bool false), (.bool false), undef, undef, undef, undef, undef, undef, undef, undef, undef, undef, undef, (.bool false), (.bool false), (.pointer (some ⟨wr.heap.size, 2, none⟩)), (.bool true), (.bool true), (.pointer (some ⟨wr.heap.size, 3, none⟩)), (.string ⟨#[]⟩), (.bool false), (.bool false), (.bool false)]) (by kernel_rfl) (by kernel_rfl) rfl rfl ?_ ?_
         ·refine ⟨?_, ?_, ?_, ?_, ?_, ?_, ?_, ?_, ?_, ?_, ?_, ?_, ?_, ?_, ?_, ?_, ?_, ?_, ?_, ?_, ?_, ?_, ?_, ?_, tv⟩
          all_goals intro ac wc hs hd hz hf hw K hK
          ·have e0 := EV 5 (.int .i64 0) (hf 5 rfl);clear hd hz hf hw;simp only [if_true, RL, e0];go_simp;exact hK _ _ rfl SR
          ·have e0 := EV 68 (.int .i64 0) (hw 0 rfl);clear hd hz hf hw;simp only [if_true, RL, e0];go_simp;exact hK _ _ rfl SR
          ·have e0 := EV 69 (.bool false) (hw 1 rfl);clear hd hz hf hw;simp only [if_true, RL, e0];go_simp;exact hK _ _ rfl SR
          ·refine SW 2 70 false hz (hw 2 rfl) ?_;exact hK _ _ rfl SR
          ·refine SW 2 70 false hz (hw 2 rfl) ?_;exact hK _ _ rfl SR
          ·refine SW 2 70 false hz (hw 2 rfl) ?_;exact hK _ _ rfl SR
          ·refine SW 2 70 false hz (hw 2 rfl) ?_;exact hK _ _ rfl SR
          ·refine SW 2 70 false hz (hw 2 rfl) ?_;exact hK _ _ rfl SR
          ·refine SW 2 70 false hz (hw 2 rfl) ?_;exact hK _ _ rfl SR
          ·refine SW 2 70 false hz (hw 2 rfl) ?_;exact hK _ _ rfl SR
          ·refine SW 2 70 false hz (hw 2 rfl) ?_;exact hK _ _ rfl SR
          ·refine SW 2 70 false hz (hw 2 rfl) ?_;exact hK _ _ rfl SR
          ·refine SW 2 70 false hz (hw 2 rfl) ?_;exact hK _ _ rfl SR
          ·refine SW 2 70 false hz (hw 2 rfl) ?_;exact hK _ _ rfl SR
          ·have e0 := EV 70 (.bool false) (hw 2 rfl);have e1 := EV 81 undef (hw 13 rfl);clear hd hz hf hw;simp only [if_true, RL, e0, e1];go_simp;exact hK _ _ rfl SR
          ·have e0 := EV 82 (.bool false) (hw 14 rfl);clear hd hz hf hw;simp only [if_true, RL, e0];go_simp;exact hK _ _ rfl SR
          ·refine RW 15 83 false hz (hw 15 rfl) ?_;have e0 := EP 6 wr.heap.size 0 (hf 6 rfl);clear hd hz hf hw;simp only [RL, e0];go_simp;exact hK _ _ rfl SR
          ·refine RW 15 83 false hz (hw 15 rfl) ?_;have e0 := EP 84 wr.heap.size 2 (hw 16 rfl);have m0 := MC b2 hs tv;clear hd hz hf hw;simp only [RL, e0];go_simp;exact hK _ _ rfl SR
          ·refine RW 15 83 false hz (hw 15 rfl) ?_;have e0 := EV 85 (.bool true) (hw 17 rfl);clear hd hz hf hw;simp only [RL, e0];go_simp;exact hK _ _ rfl SR
          ·refine RW 18 86 true hz (hw 18 rfl) ?_;have e0 := EP 6 wr.heap.size 0 (hf 6 rfl);clear hd hz hf hw;simp only [RL, e0];go_simp;exact hK _ _ rfl SR
          ·refine RW 18 86 true hz (hw 18 rfl) ?_;have e0 := EP 87 wr.heap.size 3 (hw 19 rfl);have m0 := MC b3 hs tv;clear hd hz hf hw;simp only [RL, e0];go_simp;exact hK _ _ rfl SR
          ·refine RW 18 86 true hz (hw 18 rfl) ?_;have e0 := EV 88 (.string ⟨#[]⟩) (hw 20 rfl);clear hd hz hf hw;simp only [RL, e0];go_simp;exact hK _ _ rfl SR
          ·refine RW 15 83 false hz (hw 15 rfl) ?_;have e0 := EV 86 (.bool true) (hw 18 rfl);have e1 := EV 89 (.bool false) (hw 21 rfl);clear hd hz hf hw;simp only [RL, e0, e1];go_simp;exact hK _ _ rfl SR
          ·have e0 := EV 83 (.bool false) (hw 15 rfl);have e1 := EV 90 (.bool false) (hw 22 rfl);clear hd hz hf hw;simp only [if_true, RL, e0, e1];go_simp;exact hK _ _ rfl SR
         ·intro wR hsR;simp only [Qk, Act.put, LP];go_wp2;go_roundw
          case rel => exact ⟨1, by go_num, by omega, (Hvn.out HVD.out (tv)).1, (Hvn.out HVD.out (tv)).2, (HSi.out.trans HS9.out).trans hsR⟩
          case measure => simp [intOf]; omega
        ·have hVD : ¬ (y.drop = true → y.data = []) := fun h => hdt (h hdr)
         have qd : ¬ (str y.data).toList = [] := by rw [ByteArray.toList_eq]; exact hdt
         have qd2 : ((str y.data).toList == []) = false := by simpa using qd
         have HVD := LH hVD;clear hVD hdr hdt;go_wp2;refine Qi (vs := [(.int .i64 0), (.bool false), (.bool false), undef, undef, undef, undef, undef, undef, undef, undef, undef, undef, undef, (.bool false), (.bool false), (.pointer (some ⟨wr.heap.size, 2, none⟩)), (.bool true), (.bool true), (.pointer (some ⟨wr.heap.size, 3, none⟩)), (.string (str y.data)), (.bool true), (.bool true), (.bool true)]) (by kernel_rfl) (by kernel_rfl) rfl rfl ?_ ?_
         ·refine ⟨?_, ?_, ?_, ?_, ?_, ?_, ?_, ?_, ?_, ?_, ?_, ?_, ?_, ?_, ?_, ?_, ?_, ?_, ?_, ?_, ?_, ?_, ?_, ?_, tv⟩
          all_goals intro ac wc hs hd hz hf hw K hK
          ·have e0 := EV 5 (.int .i64 0) (hf 5 rfl);clear hd hz hf hw;simp only [if_true, RL, e0];go_simp;exact hK _ _ rfl SR
          ·have e0 := EV 68 (.int .i64 0) (hw 0 rfl);clear hd hz hf hw;simp only [if_true, RL, e0];go_simp;exact hK _ _ rfl SR
          ·have e0 := EV 69 (.bool false) (hw 1 rfl);clear hd hz hf hw;simp only [if_true, RL, e0];go_simp;exact hK _ _ rfl SR
          ·refine SW 2 70 false hz (hw 2 rfl) ?_;exact hK _ _ rfl SR
          ·refine SW 2 70 false hz (hw 2 rfl) ?_;exact hK _ _ rfl SR
          ·refine SW 2 70 false hz (hw 2 rfl) ?_;exact hK _ _ rfl SR
          ·refine SW 2 70 false hz (hw 2 rfl) ?_;exact hK _ _ rfl SR
          ·refine SW 2 70 false hz (hw 2 rfl) ?_;exact hK _ _ rfl SR
          ·refine SW 2 70 false hz (hw 2 rfl) ?_;exact hK _ _ rfl SR
          ·refine SW 2 70 false hz (hw 2 rfl) ?_;exact hK _ _ rfl SR
          ·refine SW 2 70 false hz (hw 2 rfl) ?_;exact hK _ _ rfl SR
          ·refine SW 2 70 false hz (hw 2 rfl) ?_;exact hK _ _ rfl SR
          ·refine SW 2 70 false hz (hw 2 rfl) ?_;exact hK _ _ rfl SR
          ·refine SW 2 70 false hz (hw 2 rfl) ?_;exact hK _ _ rfl SR
          ·have e0 := EV 70 (.bool false) (hw 2 rfl);have e1 := EV 81 undef (hw 13 rfl);clear hd hz hf hw;simp only [if_true, RL, e0, e1];go_simp;exact hK _ _ rfl SR
          ·have e0 := EV 82 (.bool false) (hw 14 rfl);clear hd hz hf hw;simp only [if_true, RL, e0];go_simp;exact hK _ _ rfl SR
          ·refine RW 15 83 false hz (hw 15 rfl) ?_;have e0 := EP 6 wr.heap.size 0 (hf 6 rfl);clear hd hz hf hw;simp only [RL, e0];go_simp;exact hK _ _ rfl SR
          ·refine RW 15 83 false hz (hw 15 rfl) ?_;have e0 := EP 84 wr.heap.size 2 (hw 16 rfl);have m0 := MC b2 hs tv;clear hd hz hf hw;simp only [RL, e0];go_simp;exact hK _ _ rfl SR
          ·refine RW 15 83 false hz (hw 15 rfl) ?_;have e0 := EV 85 (.bool true) (hw 17 rfl);clear hd hz hf hw;simp only [RL, e0];go_simp;exact hK _ _ rfl SR
          ·refine RW 18 86 true hz (hw 18 rfl) ?_;have e0 := EP 6 wr.heap.size 0 (hf 6 rfl);clear hd hz hf hw;simp only [RL, e0];go_simp;exact hK _ _ rfl SR
          ·refine RW 18 86 true hz (hw 18 rfl) ?_;have e0 := EP 87 wr.heap.size 3 (hw 19 rfl);have m0 := MC b3 hs tv;clear hd hz hf hw;simp only [RL, e0];go_simp;exact hK _ _ rfl SR
          ·refine RW 18 86 true hz (hw 18 rfl) ?_;have e0 := EV 88 (.string (str y.data)) (hw 20 rfl);clear hd hz hf hw;simp only [RL, e0];go_simp;exact hK _ _ rfl SR
          ·refine RW 15 83 false hz (hw 15 rfl) ?_;have e0 := EV 86 (.bool true) (hw 18 rfl);have e1 := EV 89 (.bool true) (hw 21 rfl);clear hd hz hf hw;simp only [RL, e0, e1];go_simp;exact hK _ _ rfl SR
          ·have e0 := EV 83 (.bool false) (hw 15 rfl);have e1 := EV 90 (.bool true) (hw 22 rfl);clear hd hz hf hw;simp only [if_true, RL, e0, e1];go_simp;exact hK _ _ rfl SR
         ·intro wR hsR;simp only [Qk, Act.put, LP];go_wp2;go_ret;exact JE.no (Hng.out fun g => HVD.out (g.vers _ HyM.out)) ((HS.out.trans ((HS8.out.trans HSi.out).trans HS9.out)).trans hsR)
      ·obtain ⟨ad2, rfl, -, d0, d1, d2, d3⟩ := Zl.cells (Qw.keepAll Hvr.out (HS8.out.trans HSi.out)) hjl;have hym : c.vers[i2 + 1] ∈ c.vers := List.getElem_mem hjl;have hvn := fun h1 => J5 hjl Hso.out Hcl.out h1
       have hvn : (c.vers[i2 + 1].drop = true → c.vers[i2 + 1].data = []) → QG c.vers[i2].at_ c.vers[i2 + 1].at_ = true → XU (c.vers.take (i2 + 1 + 1)) ∧ YC (c.vers.take (i2 + 1 + 1)) := fun h1 h2 => hvn h1 (fun i h => by have e : i = i2 := (by omega); subst e; exact h2)
       have x3 : (0 : Int) ≤ ((i2 + 1 : Nat) : Int) := by omega
       have x4 : ((i2 + 1 : Nat) : Int) < (c.vers.length : Int) := by omega
       have hab2 := World.block_lt_of_cell? wr _ d0;have x3 : (0 : Int) ≤ (i2 : Int) + 1 := by omega
       have x4 : (i2 : Int) + 1 < (c.vers.length : Int) := by omega
       have Hvn := LH hvn;have HyM := LH hym;clear hvn hym;go_wp2;have rv := Row.new wr 69 (Qz c.vers[i2 + 1]);have hS9 := (Qa.refl (fun _ => True) wr).alloc (.cells (Qz c.vers[i2 + 1]).toArray 69);simp only [Qz] at rv hS9;clear d0 d1 d2 d3 hab2;revert rv hS9;generalize wr.alloc (.cells _ 69) = W9;intro rv hS9;have b0 : W9.cell? ⟨wr.heap.size, 0, none⟩ = some (.int .i64 c.vers[i2 + 1].at_.wall) := rv.cell 0;have b1 : W9.cell? ⟨wr.heap.size, 1, none⟩ = some (.int .i64 c.vers[i2 + 1].at_.tie) := rv.cell 1;have b2 : W9.cell? ⟨wr.heap.size, 2, none⟩ = some (.bool c.vers[i2 + 1].drop) := rv.cell 2;have b3 : W9.cell? ⟨wr.heap.size, 3, none⟩ = some (.string (str c.vers[i2 + 1].data)) := rv.cell 3;have z9 := rv.lt;have a1 := MC a1 hS9 tv;have HS9 := LH hS9;clear rv hS9;obtain ⟨ad2', e2', -, p0, p1, -, -⟩ := Zl.cells (Qw.keepAll Hvr.out (HS8.out.trans HSi.out)) (i := i2) (by omega);injection e2' with e2';subst e2';have gl := fun W => Z5 c.vers[i2].at_ c.vers[i2 + 1].at_ W
       have hns := fun h => U2 (l := c.vers) hjl h
       have Hns := LH hns;clear hns;generalize c.vers[i2] = yp at *;have x5 : (0 : Int) ≤ (i2 : Int) := by omega
       have x6 : (i2 : Int) < (c.vers.length : Int) := by omega
       have x7 : (0 : Int) < (i2 : Int) + 1 := by omega
       have x8 : IntKind.i64.wrap (i2 : Int) = (i2 : Int) := by rw [IntKind.wrap_i64]; omega
       have p0 := HS9.out.cell (p := (ad2.add (i2 * 4))) tv p0;have p1 := HS9.out.cell (p := ⟨(ad2.add (i2 * 4)).block, (ad2.add (i2 * 4)).off + 1, none⟩) tv p1;generalize c.vers[i2 + 1] = y at *;cases hls : QG yp.at_ y.at_
       ·have hns := Hns.out hls;have Hn2 := LH hns;rw [hls] at gl;clear hls hns;go_wp2;refine Qi (vs := [(.int .i64 ((i2 : Int) + 1)), (.bool true), (.bool true), (.pointer (some ⟨wo.heap.size, 1, none⟩)), (.slice (some ad2) c.vers.length cu), (.int .i64 ((i2 : Int) + 1)), (.int .i64 i2), (.pointer (some (ad2.add (i2 * 4)))), (.pointer (some (ad2.add (i2 * 4)))), (stV yp.at_), (.pointer (some ⟨wr.heap.size, 0, none⟩)), (stV y.at_), (.bool false), (.bool true), (.bool true), (.bool true), undef, undef, undef, undef, undef, undef, undef, (.bool true)]) (by kernel_rfl) (by kernel_rfl) rfl rfl ?_ ?_
        ·refine ⟨?_, ?_, ?_, ?_, ?_, ?_, ?_, ?_, ?_, ?_, ?_, ?_, ?_, ?_, ?_, ?_, ?_, ?_, ?_, ?_, ?_, ?_, ?_, ?_, tv⟩
         all_goals intro ac wc hs hd hz hf hw K hK
         ·have e0 : ac.eval (.tmp 5) = (.int .i64 ((i2 : Int) + 1)) := hf 5 rfl;clear hd hz hf hw;simp only [if_true, RL, e0];go_simp;exact hK _ _ rfl SR
         ·have e0 : ac.eval (.tmp 68) = (.int .i64 ((i2 : Int) + 1)) := hw 0 rfl;clear hd hz hf hw;simp only [if_true, RL, e0];go_simp;exact hK _ _ rfl SR
         ·have e0 := EV 69 (.bool true) (hw 1 rfl);clear hd hz hf hw;simp only [if_true, RL, e0];go_simp;exact hK _ _ rfl SR
         ·refine RW 2 70 true hz (hw 2 rfl) ?_;have e0 := EP 4 wo.heap.size 0 (hf 4 rfl);clear hd hz hf hw;simp only [RL, e0];go_simp;exact hK _ _ rfl SR
         ·refine RW 2 70 true hz (hw 2 rfl) ?_;have e0 := EP 71 wo.heap.size 1 (hw 3 rfl);have m0 := MC a1 hs tv;clear hd hz hf hw;simp only [RL, e0];go_simp;exact hK _ _ rfl SR
         ·refine RW 2 70 true hz (hw 2 rfl) ?_;have e0 : ac.eval (.tmp 5) = (.int .i64 ((i2 : Int) + 1)) := hf 5 rfl;clear hd hz hf hw;simp only [RL, e0];go_simp;exact hK _ _ rfl SR
         ·refine RW 2 70 true hz (hw 2 rfl) ?_;have e0 : ac.eval (.tmp 73) = (.int .i64 ((i2 : Int) + 1)) := hw 5 rfl;clear hd hz hf hw;simp only [RL, e0];go_simp;exact hK _ _ rfl SR
         ·refine RW 2 70 true hz (hw 2 rfl) ?_;have e0 := EV 72 (.slice (some ad2) c.vers.length cu) (hw 4 rfl);have e1 := EV 74 (.int .i64 i2) (hw 6 rfl);clear hd hz hf hw;simp only [RL, e0, e1];go_simp;exact hK _ _ rfl SR
         ·refine RW 2 70 true hz (hw 2 rfl) ?_;have e0 := EV 75 (.pointer (some (ad2.add (i2 * 4)))) (hw 7 rfl);clear hd hz hf hw;simp only [RL, e0];go_simp;exact hK _ _ rfl SR
         ·refine RW 2 70 true hz (hw 2 rfl) ?_;have e0 := EV 76 (.pointer (some (ad2.add (i2 * 4)))) (hw 8 rfl);have m0 := MC p0 hs tv;have m1 := MC p1 hs tv;clear hd hz hf hw;simp only [RL, e0];go_simp;exact hK _ _ rfl SR
         ·refine RW 2 70 true hz (hw 2 rfl) ?_;have e0 := EP 6 wr.heap.size 0 (hf 6 rfl);clear hd hz hf hw;simp only [RL, e0];go_simp;exact hK _ _ rfl SR
         ·refine RW 2 70 true hz (hw 2 rfl) ?_;have e0 := EP 78 wr.heap.size 0 (hw 10 rfl);have m0 := MC b0 hs tv;have m1 := MC b1 hs tv;clear hd hz hf hw;simp only [RL, e0];go_simp;exact hK _ _ rfl SR
         ·refine RW 2 70 true hz (hw 2 rfl) ?_;have e0 := EV 77 (stV yp.at_) (hw 9 rfl);have e1 := EV 79 (stV y.at_) (hw 11 rfl);clear hd hz hf hw;simp only [RL, e0, e1];go_simp;refine (gl _).mono ?_;rintro e wd ⟨rfl, hs2⟩;exact hK _ _ rfl hs2
         ·refine RW 2 70 true hz (hw 2 rfl) ?_;have e0 := EV 80 (.bool false) (hw 12 rfl);clear hd hz hf hw;simp only [RL, e0];go_simp;exact hK _ _ rfl SR
         ·have e0 := EV 70 (.bool true) (hw 2 rfl);have e1 := EV 81 (.bool true) (hw 13 rfl);clear hd hz hf hw;simp only [if_true, RL, e0, e1];go_simp;exact hK _ _ rfl SR
         ·have e0 := EV 82 (.bool true) (hw 14 rfl);clear hd hz hf hw;simp only [if_true, RL, e0];go_simp;exact hK _ _ rfl SR
         ·refine SW 15 83 true hz (hw 15 rfl) ?_;exact hK _ _ rfl SR
         ·refine SW 15 83 true hz (hw 15 rfl) ?_;exact hK _ _ rfl SR
         ·refine SW 15 83 true hz (hw 15 rfl) ?_;exact hK _ _ rfl SR
         ·refine Qt (j := 18) (d := 86) rfl rfl hz (of_decide_eq_true rfl) (hw 18 rfl) ?_;exact hK _ _ rfl SR
         ·refine Qt (j := 18) (d := 86) rfl rfl hz (of_decide_eq_true rfl) (hw 18 rfl) ?_;exact hK _ _ rfl SR
         ·refine Qt (j := 18) (d := 86) rfl rfl hz (of_decide_eq_true rfl) (hw 18 rfl) ?_;exact hK _ _ rfl SR
         ·refine SW 15 83 true hz (hw 15 rfl) ?_;exact hK _ _ rfl SR
         ·have e0 := EV 83 (.bool true) (hw 15 rfl);have e1 := EV 90 undef (hw 22 rfl);clear hd hz hf hw;simp only [if_true, RL, e0, e1];go_simp;exact hK _ _ rfl SR
        ·intro wR hsR;simp only [Qk, Act.put, LP];go_wp2;go_ret;exact JE.no (Hng.out fun g => Hn2.out g.sort) ((HS.out.trans ((HS8.out.trans HSi.out).trans HS9.out)).trans hsR)
       ·have HLS := LH hls;rw [hls] at gl;clear hls;cases hdr : y.drop
        ·rw [hdr] at b2;have hVD : y.drop = true → y.data = [] := fun h => by rw [hdr] at h; cases h
         have HVD := LH hVD;clear hVD hdr;go_wp2;refine Qi (vs := [(.int .i64 ((i2 : Int) + 1)), (.bool true), (.bool true), (.pointer (some ⟨wo.heap.size, 1, none⟩)), (.slice (some ad2) c.vers.length cu), (.int .i64 ((i2 : Int) + 1)), (.int .i64 i2), (.pointer (some (ad2.add (i2 * 4)))), (.pointer (some (ad2.add (i2 * 4)))), (stV yp.at_), (.pointer (some ⟨wr.heap.size, 0, none⟩)), (stV y.at_), (.bool true), (.bool false), (.bool false), (.bool false), (.pointer (some ⟨wr.heap.size, 2, none⟩)), (.bool false), (.bool false), undef, undef, undef, (.bool false), (.bool false)]) (by kernel_rfl) (by kernel_rfl) rfl rfl ?_ ?_
         ·refine ⟨?_, ?_, ?_, ?_, ?_, ?_, ?_, ?_, ?_, ?_, ?_, ?_, ?_, ?_, ?_, ?_, ?_, ?_, ?_, ?_, ?_, ?_, ?_, ?_, tv⟩
          all_goals intro ac wc hs hd hz hf hw K hK
          ·have e0 : ac.eval (.tmp 5) = (.int .i64 ((i2 : Int) + 1)) := hf 5 rfl;clear hd hz hf hw;simp only [if_true, RL, e0];go_simp;exact hK _ _ rfl SR
          ·have e0 : ac.eval (.tmp 68) = (.int .i64 ((i2 : Int) + 1)) := hw 0 rfl;clear hd hz hf hw;simp only [if_true, RL, e0];go_simp;exact hK _ _ rfl SR
          ·have e0 := EV 69 (.bool true) (hw 1 rfl);clear hd hz hf hw;simp only [if_true, RL, e0];go_simp;exact hK _ _ rfl SR
          ·refine RW 2 70 true hz (hw 2 rfl) ?_;have e0 := EP 4 wo.heap.size 0 (hf 4 rfl);clear hd hz hf hw;simp only [RL, e0];go_simp;exact hK _ _ rfl SR
          ·refine RW 2 70 true hz (hw 2 rfl) ?_;have e0 := EP 71 wo.heap.size 1 (hw 3 rfl);have m0 := MC a1 hs tv;clear hd hz hf hw;simp only [RL, e0];go_simp;exact hK _ _ rfl SR
          ·refine RW 2 70 true hz (hw 2 rfl) ?_;have e0 : ac.eval (.tmp 5) = (.int .i64 ((i2 : Int) + 1)) := hf 5 rfl;clear hd hz hf hw;simp only [RL, e0];go_simp;exact hK _ _ rfl SR
          ·refine RW 2 70 true hz (hw 2 rfl) ?_;have e0 : ac.eval (.tmp 73) = (.int .i64 ((i2 : Int) + 1)) := hw 5 rfl;clear hd hz hf hw;simp only [RL, e0];go_simp;exact hK _ _ rfl SR
          ·refine RW 2 70 true hz (hw 2 rfl) ?_;have e0 := EV 72 (.slice (some ad2) c.vers.length cu) (hw 4 rfl);have e1 := EV 74 (.int .i64 i2) (hw 6 rfl);clear hd hz hf hw;simp only [RL, e0, e1];go_simp;exact hK _ _ rfl SR
          ·refine RW 2 70 true hz (hw 2 rfl) ?_;have e0 := EV 75 (.pointer (some (ad2.add (i2 * 4)))) (hw 7 rfl);clear hd hz hf hw;simp only [RL, e0];go_simp;exact hK _ _ rfl SR
          ·refine RW 2 70 true hz (hw 2 rfl) ?_;have e0 := EV 76 (.pointer (some (ad2.add (i2 * 4)))) (hw 8 rfl);have m0 := MC p0 hs tv;have m1 := MC p1 hs tv;clear hd hz hf hw;simp only [RL, e0];go_simp;exact hK _ _ rfl SR
          ·refine RW 2 70 true hz (hw 2 rfl) ?_;have e0 := EP 6 wr.heap.size 0 (hf 6 rfl);clear hd hz hf hw;simp only [RL, e0];go_simp;exact hK _ _ rfl SR
          ·refine RW 2 70 true hz (hw 2 rfl) ?_;have e0 := EP 78 wr.heap.size 0 (hw 10 rfl);have m0 := MC b0 hs tv;have m1 := MC b1 hs tv;clear hd hz hf hw;simp only [RL, e0];go_simp;exact hK _ _ rfl SR
          ·refine RW 2 70 true hz (hw 2 rfl) ?_;have e0 := EV 77 (stV yp.at_) (hw 9 rfl);have e1 := EV 79 (stV y.at_) (hw 11 rfl);clear hd hz hf hw;simp only [RL, e0, e1];go_simp;refine (gl _).mono ?_;rintro e wd ⟨rfl, hs2⟩;exact hK _ _ rfl hs2
          ·refine RW 2 70 true hz (hw 2 rfl) ?_;have e0 := EV 80 (.bool true) (hw 12 rfl);clear hd hz hf hw;simp only [RL, e0];go_simp;exact hK _ _ rfl SR
          ·have e0 := EV 70 (.bool true) (hw 2 rfl);have e1 := EV 81 (.bool false) (hw 13 rfl);clear hd hz hf hw;simp only [if_true, RL, e0, e1];go_simp;exact hK _ _ rfl SR
          ·have e0 := EV 82 (.bool false) (hw 14 rfl);clear hd hz hf hw;simp only [if_true, RL, e0];go_simp;exact hK _ _ rfl SR
          ·refine RW 15 83 false hz (hw 15 rfl) ?_;have e0 := EP 6 wr.heap.size 0 (hf 6 rfl);clear hd hz hf hw;simp only [RL, e0];go_simp;exact hK _ _ rfl SR
          ·refine RW 15 83 false hz (hw 15 rfl) ?_;have e0 := EP 84 wr.heap.size 2 (hw 16 rfl);have m0 := MC b2 hs tv;clear hd hz hf hw;simp only [RL, e0];go_simp;exact hK _ _ rfl SR
          ·refine RW 15 83 false hz (hw 15 rfl) ?_;have e0 := EV 85 (.bool false) (hw 17 rfl);clear hd hz hf hw;simp only [RL, e0];go_simp;exact hK _ _ rfl SR
          ·refine SW 18 86 false hz (hw 18 rfl) ?_;exact hK _ _ rfl SR
          ·refine SW 18 86 false hz (hw 18 rfl) ?_;exact hK _ _ rfl SR
          ·refine SW 18 86 false hz (hw 18 rfl) ?_;exact hK _ _ rfl SR
          ·refine RW 15 83 false hz (hw 15 rfl) ?_;have e0 := EV 86 (.bool false) (hw 18 rfl);have e1 := EV 89 undef (hw 21 rfl);clear hd hz hf hw;simp only [RL, e0, e1];go_simp;exact hK _ _ rfl SR
          ·have e0 := EV 83 (.bool false) (hw 15 rfl);have e1 := EV 90 (.bool false) (hw 22 rfl);clear hd hz hf hw;simp only [if_true, RL, e0, e1];go_simp;exact hK _ _ rfl SR
         ·intro wR hsR;simp only [Qk, Act.put, LP];go_wp2;go_roundw
          case rel => exact ⟨i2 + 1 + 1, by go_num, by omega, (Hvn.out HVD.out (HLS.out)).1, (Hvn.out HVD.out (HLS.out)).2, (HSi.out.trans HS9.out).trans hsR⟩
          case measure => simp [intOf]; omega
        ·rw [hdr] at b2;by_cases hdt : y.data = []
         ·have hVD : y.drop = true → y.data = [] := fun _ => hdt
          rw [hdt] at b3;have b3 : W9.cell? ⟨wr.heap.size, 3, none⟩ = some (.string ⟨#[]⟩) := b3;have HVD := LH hVD;clear hVD hdr hdt;go_wp2;refine Qi (vs := [(.int .i64 ((i2 : Int) + 1)), (.bool true), (.bool true), (.pointer (some ⟨wo.heap.size, 1, none⟩)), (.slice (some ad2) c.vers.length cu), (.int .i64 ((i2 : Int) + 1)), (.int .i64 i2), (.pointer (some (ad2.add (i2 * 4)))), (.pointer (some (ad2.add (i2 * 4)))), (stV yp.at_), (.pointer (some ⟨wr.heap.size, 0, none⟩)), (stV y.at_), (.bool true), (.bool false), (.bool false), (.bool false), (.pointer (some ⟨wr.heap.size, 2, none⟩)), (.bool true), (.bool true), (.pointer (some ⟨wr.heap.size, 3, none⟩)), (.string ⟨#[]⟩), (.bool false), (.bool false), (.bool false)]) (by kernel_rfl) (by kernel_rfl) rfl rfl ?_ ?_
          ·refine ⟨?_, ?_, ?_, ?_, ?_, ?_, ?_, ?_, ?_, ?_, ?_, ?_, ?_, ?_, ?_, ?_, ?_, ?_, ?_, ?_, ?_, ?_, ?_, ?_, tv⟩
           all_goals intro ac wc hs hd hz hf hw K hK
           ·have e0 : ac.eval (.tmp 5) = (.int .i64 ((i2 : Int) + 1)) := hf 5 rfl;clear hd hz hf hw;simp only [if_true, RL, e0];go_simp;exact hK _ _ rfl SR
           ·have e0 : ac.eval (.tmp 68) = (.int .i64 ((i2 : Int) + 1)) := hw 0 rfl;clear hd hz hf hw;simp only [if_true, RL, e0];go_simp;exact hK _ _ rfl SR
           ·have e0 := EV 69 (.bool true) (hw 1 rfl);clear hd hz hf hw;simp only [if_true, RL, e0];go_simp;exact hK _ _ rfl SR
           ·refine RW 2 70 true hz (hw 2 rfl) ?_;have e0 := EP 4 wo.heap.size 0 (hf 4 rfl);clear hd hz hf hw;simp only [RL, e0];go_simp;exact hK _ _ rfl SR
           ·refine RW 2 70 true hz (hw 2 rfl) ?_;have e0 := EP 71 wo.heap.size 1 (hw 3 rfl);have m0 := MC a1 hs tv;clear hd hz hf hw;simp only [RL, e0];go_simp;exact hK _ _ rfl SR
           ·refine RW 2 70 true hz (hw 2 rfl) ?_;have e0 : ac.eval (.tmp 5) = (.int .i64 ((i2 : Int) + 1)) := hf 5 rfl;clear hd hz hf hw;simp only [RL, e0];go_simp;exact hK _ _ rfl SR
           ·refine RW 2 70 true hz (hw 2 rfl) ?_;have e0 : ac.eval (.tmp 73) = (.int .i64 ((i2 : Int) + 1)) := hw 5 rfl;clear hd hz hf hw;simp only [RL, e0];go_simp;exact hK _ _ rfl SR
           ·refine RW 2 70 true hz (hw 2 rfl) ?_;have e0 := EV 72 (.slice (some ad2) c.vers.length cu) (hw 4 rfl);have e1 := EV 74 (.int .i64 i2) (hw 6 rfl);clear hd hz hf hw;simp only [RL, e0, e1];go_simp;exact hK _ _ rfl SR
           ·refine RW 2 70 true hz (hw 2 rfl) ?_;have e0 := EV 75 (.pointer (some (ad2.add (i2 * 4)))) (hw 7 rfl);clear hd hz hf hw;simp only [RL, e0];go_simp;exact hK _ _ rfl SR
           ·refine RW 2 70 true hz (hw 2 rfl) ?_;have e0 := EV 76 (.pointer (some (ad2.add (i2 * 4)))) (hw 8 rfl);have m0 := MC p0 hs tv;have m1 := MC p1 hs tv;clear hd hz hf hw;simp only [RL, e0];go_simp;exact hK _ _ rfl SR
           ·refine RW 2 70 true hz (hw 2 rfl) ?_;have e0 := EP 6 wr.heap.size 0 (hf 6 rfl);clear hd hz hf hw;simp only [RL, e0];go_simp;exact hK _ _ rfl SR
           ·refine RW 2 70 true hz (hw 2 rfl) ?_;have e0 := EP 78 wr.heap.size 0 (hw 10 rfl);have m0 := MC b0 hs tv;have m1 := MC b1 hs tv;clear hd hz hf hw;simp only [RL, e0];go_simp;exact hK _ _ rfl SR
           ·refine RW 2 70 true hz (hw 2 rfl) ?_;have e0 := EV 77 (stV yp.at_) (hw 9 rfl);have e1 := EV 79 (stV y.at_) (hw 11 rfl);clear hd hz hf hw;simp only [RL, e0, e1];go_simp;refine (gl _).mono ?_;rintro e wd ⟨rfl, hs2⟩;exact hK _ _ rfl hs2
           ·refine RW 2 70 true hz (hw 2 rfl) ?_;have e0 := EV 80 (.bool true) (hw 12 rfl);clear hd hz hf hw;simp only [RL, e0];go_simp;exact hK _ _ rfl SR
           ·have e0 := EV 70 (.bool true) (hw 2 rfl);have e1 := EV 81 (.bool false) (hw 13 rfl);clear hd hz hf hw;simp only [if_true, RL, e0, e1];go_simp;exact hK _ _ rfl SR
           ·have e0 := EV 82 (.bool false) (hw 14 rfl);clear hd hz hf hw;simp only [if_true, RL, e0];go_simp;exact hK _ _ rfl SR
           ·refine RW 15 83 false hz (hw 15 rfl) ?_;have e0 := EP 6 wr.heap.size 0 (hf 6 rfl);clear hd hz hf hw;simp only [RL, e0];go_simp;exact hK _ _ rfl SR
           ·refine RW 15 83 false hz (hw 15 rfl) ?_;have e0 := EP 84 wr.heap.size 2 (hw 16 rfl);have m0 := MC b2 hs tv;clear hd hz hf hw;simp only [RL, e0];go_simp;exact hK _ _ rfl SR
           ·refine RW 15 83 false hz (hw 15 rfl) ?_;have e0 := EV 85 (.bool true) (hw 17 rfl);clear hd hz hf hw;simp only [RL, e0];go_simp;exact hK _ _ rfl SR
           ·refine RW 18 86 true hz (hw 18 rfl) ?_;have e0 := EP 6 wr.heap.size 0 (hf 6 rfl);clear hd hz hf hw;simp only [RL, e0];go_simp;exact hK _ _ rfl SR
           ·refine RW 18 86 true hz (hw 18 rfl) ?_;have e0 := EP 87 wr.heap.size 3 (hw 19 rfl);have m0 := MC b3 hs tv;clear hd hz hf hw;simp only [RL, e0];go_simp;exact hK _ _ rfl SR
           ·refine RW 18 86 true hz (hw 18 rfl) ?_;have e0 := EV 88 (.string ⟨#[]⟩) (hw 20 rfl);clear hd hz hf hw;simp only [RL, e0];go_simp;exact hK _ _ rfl SR
           ·refine RW 15 83 false hz (hw 15 rfl) ?_;have e0 := EV 86 (.bool true) (hw 18 rfl);have e1 := EV 89 (.bool false) (hw 21 rfl);clear hd hz hf hw;simp only [RL, e0, e1];go_simp;exact hK _ _ rfl SR
           ·have e0 := EV 83 (.bool false) (hw 15 rfl);have e1 := EV 90 (.bool false) (hw 22 rfl);clear hd hz hf hw;simp only [if_true, RL, e0, e1];go_simp;exact hK _ _ rfl SR
          ·intro wR hsR;simp only [Qk, Act.put, LP];go_wp2;go_roundw
           case rel => exact ⟨i2 + 1 + 1, by go_num, by omega, (Hvn.out HVD.out (HLS.out)).1, (Hvn.out HVD.out (HLS.out)).2, (HSi.out.trans HS9.out).trans hsR⟩
           case measure => simp [intOf]; omega
         ·have hVD : ¬ (y.drop = true → y.data = []) := fun h => hdt (h hdr)
          have qd : ¬ (str y.data).toList = [] := by rw [ByteArray.toList_eq]; exact hdt
          have qd2 : ((str y.data).toList == []) = false := by simpa using qd
          have HVD := LH hVD;clear hVD hdr hdt;go_wp2;refine Qi (vs := [(.int .i64 ((i2 : Int) + 1)), (.bool true), (.bool true), (.pointer (some ⟨wo.heap.size, 1, none⟩)), (.slice (some ad2) c.vers.length cu), (.int .i64 ((i2 : Int) + 1)), (.int .i64 i2), (.pointer (some (ad2.add (i2 * 4)))), (.pointer (some (ad2.add (i2 * 4)))), (stV yp.at_), (.pointer (some ⟨wr.heap.size, 0, none⟩)), (stV y.at_), (.bool true), (.bool false), (.bool false), (.bool false), (.pointer (some ⟨wr.heap.size, 2, none⟩)), (.bool true), (.bool true), (.pointer (some ⟨wr.heap.size, 3, none⟩)), (.string (str y.data)), (.bool true), (.bool true), (.bool true)]) (by kernel_rfl) (by kernel_rfl) rfl rfl ?_ ?_
          ·refine ⟨?_, ?_, ?_, ?_, ?_, ?_, ?_, ?_, ?_, ?_, ?_, ?_, ?_, ?_, ?_, ?_, ?_, ?_, ?_, ?_, ?_, ?_, ?_, ?_, tv⟩
           all_goals intro ac wc hs hd hz hf hw K hK
           ·have e0 : ac.eval (.tmp 5) = (.int .i64 ((i2 : Int) + 1)) := hf 5 rfl;clear hd hz hf hw;simp only [if_true, RL, e0];go_simp;exact hK _ _ rfl SR
           ·have e0 : ac.eval (.tmp 68) = (.int .i64 ((i2 : Int) + 1)) := hw 0 rfl;clear hd hz hf hw;simp only [if_true, RL, e0];go_simp;exact hK _ _ rfl SR
           ·have e0 := EV 69 (.bool true) (hw 1 rfl);clear hd hz hf hw;simp only [if_true, RL, e0];go_simp;exact hK _ _ rfl SR
           ·refine RW 2 70 true hz (hw 2 rfl) ?_;have e0 := EP 4 wo.heap.size 0 (hf 4 rfl);clear hd hz hf hw;simp only [RL, e0];go_simp;exact hK _ _ rfl SR
           ·refine RW 2 70 true hz (hw 2 rfl) ?_;have e0 := EP 71 wo.heap.size 1 (hw 3 rfl);have m0 := MC a1 hs tv;clear hd hz hf hw;simp only [RL, e0];go_simp;exact hK _ _ rfl SR
           ·refine RW 2 70 true hz (hw 2 rfl) ?_;have e0 : ac.eval (.tmp 5) = (.int .i64 ((i2 : Int) + 1)) := hf 5 rfl;clear hd hz hf hw;simp only [RL, e0];go_simp;exact hK _ _ rfl SR
           ·refine RW 2 70 true hz (hw 2 rfl) ?_;have e0 : ac.eval (.tmp 73) = (.int .i64 ((i2 : Int) + 1)) := hw 5 rfl;clear hd hz hf hw;simp only [RL, e0];go_simp;exact hK _ _ rfl SR
           ·refine RW 2 70 true hz (hw 2 rfl) ?_;have e0 := EV 72 (.slice (some ad2) c.vers.length cu) (hw 4 rfl);have e1 := EV 74 (.int .i64 i2) (hw 6 rfl);clear hd hz hf hw;simp only [RL, e0, e1];go_simp;exact hK _ _ rfl SR
           ·refine RW 2 70 true hz (hw 2 rfl) ?_;have e0 := EV 75 (.pointer (some (ad2.add (i2 * 4)))) (hw 7 rfl);clear hd hz hf hw;simp only [RL, e0];go_simp;exact hK _ _ rfl SR
           ·refine RW 2 70 true hz (hw 2 rfl) ?_;have e0 := EV 76 (.pointer (some (ad2.add (i2 * 4)))) (hw 8 rfl);have m0 := MC p0 hs tv;have m1 := MC p1 hs tv;clear hd hz hf hw;simp only [RL, e0];go_simp;exact hK _ _ rfl SR
           ·refine RW 2 70 true hz (hw 2 rfl) ?_;have e0 := EP 6 wr.heap.size 0 (hf 6 rfl);clear hd hz hf hw;simp only [RL, e0];go_simp;exact hK _ _ rfl SR
           ·refine RW 2 70 true hz (hw 2 rfl) ?_;have e0 := EP 78 wr.heap.size 0 (hw 10 rfl);have m0 := MC b0 hs tv;have m1 := MC b1 hs tv;clear hd hz hf hw;simp only [RL, e0];go_simp;exact hK _ _ rfl SR
           ·refine RW 2 70 true hz (hw 2 rfl) ?_;have e0 := EV 77 (stV yp.at_) (hw 9 rfl);have e1 := EV 79 (stV y.at_) (hw 11 rfl);clear hd hz hf hw;simp only [RL, e0, e1];go_simp;refine (gl _).mono ?_;rintro e wd ⟨rfl, hs2⟩;exact hK _ _ rfl hs2
           ·refine RW 2 70 true hz (hw 2 rfl) ?_;have e0 := EV 80 (.bool true) (hw 12 rfl);clear hd hz hf hw;simp only [RL, e0];go_simp;exact hK _ _ rfl SR
           ·have e0 := EV 70 (.bool true) (hw 2 rfl);have e1 := EV 81 (.bool false) (hw 13 rfl);clear hd hz hf hw;simp only [if_true, RL, e0, e1];go_simp;exact hK _ _ rfl SR
           ·have e0 := EV 82 (.bool false) (hw 14 rfl);clear hd hz hf hw;simp only [if_true, RL, e0];go_simp;exact hK _ _ rfl SR
           ·refine RW 15 83 false hz (hw 15 rfl) ?_;have e0 := EP 6 wr.heap.size 0 (hf 6 rfl);clear hd hz hf hw;simp only [RL, e0];go_simp;exact hK _ _ rfl SR
           ·refine RW 15 83 false hz (hw 15 rfl) ?_;have e0 := EP 84 wr.heap.size 2 (hw 16 rfl);have m0 := MC b2 hs tv;clear hd hz hf hw;simp only [RL, e0];go_simp;exact hK _ _ rfl SR
           ·refine RW 15 83 false hz (hw 15 rfl) ?_;have e0 := EV 85 (.bool true) (hw 17 rfl);clear hd hz hf hw;simp only [RL, e0];go_simp;exact hK _ _ rfl SR
           ·refine RW 18 86 true hz (hw 18 rfl) ?_;have e0 := EP 6 wr.heap.size 0 (hf 6 rfl);clear hd hz hf hw;simp only [RL, e0];go_simp;exact hK _ _ rfl SR
           ·refine RW 18 86 true hz (hw 18 rfl) ?_;have e0 := EP 87 wr.heap.size 3 (hw 19 rfl);have m0 := MC b3 hs tv;clear hd hz hf hw;simp only [RL, e0];go_simp;exact hK _ _ rfl SR
           ·refine RW 18 86 true hz (hw 18 rfl) ?_;have e0 := EV 88 (.string (str y.data)) (hw 20 rfl);clear hd hz hf hw;simp only [RL, e0];go_simp;exact hK _ _ rfl SR
           ·refine RW 15 83 false hz (hw 15 rfl) ?_;have e0 := EV 86 (.bool true) (hw 18 rfl);have e1 := EV 89 (.bool true) (hw 21 rfl);clear hd hz hf hw;simp only [RL, e0, e1];go_simp;exact hK _ _ rfl SR
           ·have e0 := EV 83 (.bool false) (hw 15 rfl);have e1 := EV 90 (.bool true) (hw 22 rfl);clear hd hz hf hw;simp only [if_true, RL, e0, e1];go_simp;exact hK _ _ rfl SR
          ·intro wR hsR;simp only [Qk, Act.put, LP];go_wp2;go_ret;exact JE.no (Hng.out fun g => HVD.out (g.vers _ HyM.out)) ((HS.out.trans ((HS8.out.trans HSi.out).trans HS9.out)).trans hsR)
     ·obtain rfl : j = c.vers.length := by omega
      have hnx := Hnx.out ⟨by have := Hso.out; rwa [List.take_length] at this, by have := Hcl.out; rwa [List.take_length] at this, HF1.out, HF2.out, HF3.out⟩;have HN := LH hnx;clear hnx;go_wp2;go_roundw
      case rel => exact ⟨k + 1, by go_num, by omega, HN.out, (HS.out.trans HS8.out).trans HSi.out⟩
      case measure => simp [intOf]; omega
  ·obtain rfl : k = cs.length := by omega
   have hg : Zb cs := by have := HG.out; rwa [List.take_length] at this
   have HG2 := LH hg;clear hS hg;go_wp2;go_ret;exact JE.yes HG2.out HS.out
theorem WD (v : Value) (cs : List Cel) (S : Nat → Prop) (w : World) (hv : QU w S v cs) (hg : Zb cs) (hn : cs.length ≤ 100000) (hn2 : ∀ c ∈ cs, c.vers.length ≤ 1000000) :
  Calls Try.prog 31 #[v] w fun e w' => e = .returned (.bool true) ∧ Qa (fun _ => True) w w' := by
 refine (Un v cs S w hv hn hn2).mono ?_;rintro e w' ⟨b, rfl, hb, hs⟩;exact ⟨by rw [hb.2 hg], hs⟩
end Go.Proofs.Ytoldelocfmpccaa
namespace Go.Proofs.Ytoldelocfmpccaa
open Go.RowKit Go.ChangeShapes Go.WideShapes Go.ChangeAt
structure Zj (P : Program) (t : TypeId) (α : Type) where
 ok : World → (Nat → Prop) → List Value → α → Prop
 keep : ∀ {S : Nat → Prop} {w w' : World} {vs : List Value} {x : α}, Qa S w w' → ok w S vs x → ok w' S vs x
 size : ∀ {S : Nat → Prop} {w : World} {vs : List Value} {x : α}, ok w S vs x → vs.length = P.cellsOf t
 opens : ∀ {H : Type} {enc : TypeId × Value → H} {W : World} {fuel : Nat} {cs : List Value} {x : DataW H × List MemPlace},
  DataW.trod enc P W 0 (fun _ => true) true fuel t cs = some x → ∃ a, ok W (· < W.heap.size) cs a
section
variable {P : Program} {t e : TypeId} {α β : Type}
def Qb0 (k : IntKind) (ht : P.underlying t = some (.int k)) (hc : P.cellsOf t = 1) : Zj P t Int where
 ok _ _ vs n := vs = [.int k n] ∧ (Lit.int k n).wf = true
 keep _ h := h
 size h := by rw [h.1, hc]; rfl
 opens h := by
  obtain ⟨n, h1, _, h2⟩ := DataW.trod_int ht h;exact ⟨n, h1, h2⟩
def QbN (ht : P.underlying t = some .bool) (hc : P.cellsOf t = 1) : Zj P t Bool where
 ok _ _ vs b := vs = [.bool b]
 keep _ h := h
 size h := by rw [h, hc]; rfl
 opens h := by
  obtain ⟨n, h1, _⟩ := DataW.trod_bool ht h;exact ⟨n, h1⟩
def Qcd (ht : P.underlying t = some .string) (hc : P.cellsOf t = 1) : Zj P t (List UInt8) where
 ok _ _ vs l := vs = [.string (str l)] ∧ l.length ≤ maxLen
 keep _ h := h
 size h := by rw [h.1, hc]; rfl
 opens h := by
  obtain ⟨s, h1, _, h2⟩ := DataW.trod_string ht h;exact ⟨s.data.toList, by rw [h1, ← Qba], by rw [Array.length_toList]; exact h2⟩
def Ys (C : Zj P e α) (w : World) (S : Nat → Prop) (v : Value) (xs : List α) : Prop :=
 ∃ A c, v = .slice A xs.length c ∧ xs.length ≤ c ∧ c ≤ maxLen ∧
  ∀ i x, xs[i]? = some x → ∃ ad us, A = some ad ∧ S ad.block ∧ (∀ j u, us[j]? = some u → w.cell? (ad.add (i * P.cellsOf e + j)) = some u) ∧ C.ok w S us x
theorem Ys.keep {C : Zj P e α} {w w' : World} {S : Nat → Prop} {v : Value} {xs : List α} (h : Ys C w S v xs) (hs : Qa S w w') : Ys C w' S v xs := by
 obtain ⟨A, c, h1, h2, h3, h4⟩ := h;refine ⟨A, c, h1, h2, h3, fun i x hx => ?_⟩;obtain ⟨ad, us, a1, a2, a3, a4⟩ := h4 i x hx;exact ⟨ad, us, a1, a2, fun j u hu => hs.cell (by rw [QK]; exact a2) (a3 j u hu), C.keep hs a4⟩
theorem Ys.opens {C : Zj P e α} (ht : P.underlying t = some (.slice e)) (hc : 0 < P.cellsOf e) {H : Type} {enc : TypeId × Value → H} {W : World} {fuel : Nat} {cs : List Value} {x : DataW H × List MemPlace}
  (h : DataW.trod enc P W 0 (fun _ => true) true fuel t cs = some x) : ∃ v xs, cs = [v] ∧ Ys C W (· < W.heap.size) v xs := by
 rcases Go.Deep.open_slice ht h with ⟨rfl, _⟩ | ⟨a, len, cap, m, n, D, Pl, rfl, _, hl, hm, hmm, _, hel⟩
 ·exact ⟨_, [], rfl, none, 0, rfl, Nat.le_refl _, by simp [maxLen], fun i x hx => by simp at hx⟩
 ·simp only [if_true] at hmm;subst hmm
  have each : ∀ i, i < len → ∃ p : List Value × α, (∀ j u, p.1[j]? = some u → W.cell? (a.add (i * P.cellsOf e + j)) = some u) ∧ C.ok W (· < W.heap.size) p.1 p.2 := by
   intro i hi;obtain ⟨cs', hcs, htr⟩ := hel i (by omega);obtain ⟨y, hy⟩ := C.opens htr;obtain ⟨_, hlen, hat⟩ := World.cells?_some hcs;refine ⟨(cs', y), fun j u hu => ?_, hy⟩
   have hj : j < cs'.length := by
    rcases Nat.lt_or_ge j cs'.length with h | h
    ·exact h
    ·rw [List.getElem?_eq_none h] at hu; cases hu
   have := hat j (by omega);rw [← JA, this];exact hu
  rcases Nat.eq_zero_or_pos len with h0 | h0
  ·subst h0;exact ⟨_, [], rfl, some a, m, rfl, by simp, hm, fun i x hx => by simp at hx⟩
  obtain ⟨p0, _⟩ := each 0 h0;haveI : Inhabited (List Value × α) := ⟨p0⟩;obtain ⟨F, hF⟩ := Go.Deep.choose_lt each;refine ⟨_, (List.range len).map fun i => (F i).2, rfl, some a, m, by simp, by simpa using hl, hm, fun i x hx => ?_⟩;by_cases hi : i < len
  ·simp [hi] at hx;subst hx;obtain ⟨h1, h2⟩ := hF i hi;refine ⟨a, (F i).1, rfl, ?_, h1, h2⟩;have hz := C.size h2;have := World.block_lt_of_cell? W _ (h1 0 _ (List.getElem?_eq_getElem (by omega)));rw [QK] at this;exact this
  ·simp [hi] at hx
def QaN (C : Zj P e α) (ht : P.underlying t = some (.slice e)) (hc : 0 < P.cellsOf e) (hc' : P.cellsOf t = 1) : Zj P t (List α) where
 ok w S vs xs := ∃ v, vs = [v] ∧ Ys C w S v xs
 keep hs h := by
  obtain ⟨v, h1, h2⟩ := h;exact ⟨v, h1, h2.keep hs⟩
 size h := by
  obtain ⟨v, rfl, _⟩ := h;rw [hc']; rfl
 opens h := by
  obtain ⟨v, xs, h1, h2⟩ := Ys.opens (C := C) ht hc h;exact ⟨xs, v, h1, h2⟩
structure Qbd (P : Program) (fs : List Field) (α : Type) where
 ok : World → (Nat → Prop) → List Value → α → Prop
 keep : ∀ {S : Nat → Prop} {w w' : World} {vs : List Value} {x : α}, Qa S w w' → ok w S vs x → ok w' S vs x
 opens : ∀ {H : Type} {enc : TypeId × Value → H} {W : World} {n : Nat} {cs : List Value},
  (∀ f, f ∈ fs → ∃ y, DataW.trod enc P W 0 (fun _ => true) true n f.type ((cs.drop f.offset).take (P.cellsOf f.type)) = some y) → ∃ a, ok W (· < W.heap.size) cs a
def Qao : Qbd P [] Unit where
 ok _ _ _ _ := True
 keep _ h := h
 opens _ := ⟨(), tv⟩
def Zp (off n : Nat) {f : Field} {fs : List Field} (C : Zj P f.type α) (R : Qbd P fs β) (ho : f.offset = off := by rfl) (hn : P.cellsOf f.type = n := by kernel_rfl) : Qbd P (f :: fs) (α × β) where
 ok w S vs x := C.ok w S ((vs.drop off).take n) x.1 ∧ R.ok w S vs x.2
 keep hs h := ⟨C.keep hs h.1, R.keep hs h.2⟩
 opens h := by
  obtain ⟨y, hy⟩ := h f (by simp);rw [ho, hn] at hy;obtain ⟨a, ha⟩ := C.opens hy;obtain ⟨b, hb⟩ := R.opens (fun g hg => h g (by simp [hg]));exact ⟨(a, b), ha, hb⟩
def YQ {fs : Array Field} (R : Qbd P fs.toList β) (F : β → α) (ht : P.underlying t = some (.struct fs)) : Zj P t α where
 ok w S vs x := vs.length = P.cellsOf t ∧ ∃ b, x = F b ∧ R.ok w S vs b
 keep hs h := by
  obtain ⟨h0, b, h1, h2⟩ := h;exact ⟨h0, b, h1, R.keep hs h2⟩
 size h := h.1
 opens h := by
  obtain ⟨xs, n, _, _, h1, h2, h3⟩ := DataW.trod_struct ht h
  obtain ⟨b, hb⟩ := R.opens (enc := _) (n := n) (fun f hf => by
   obtain ⟨i, hi, rfl⟩ := List.mem_iff_getElem.1 hf;have hi' : i < fs.size := by simpa using hi
   have := h3 i fs[i] (by simp [hi']);refine ⟨xs[i]'(by omega), ?_⟩;rw [List.getElem?_eq_getElem (by omega)] at this
   exact this)
  exact ⟨F b, h1, b, rfl, hb⟩
end
def cI : Zj Try.prog 3 Int := Qb0 .i64 Try.underlying3 (by kernel_rfl)
def cJ : Zj Try.prog 2 Int := Qb0 .i64 Try.underlying2 (by kernel_rfl)
def cO : Zj Try.prog 4 Bool := QbN Try.underlying4 (by kernel_rfl)
def cS : Zj Try.prog 9 (List UInt8) := Qcd Try.underlying9 (by kernel_rfl)
set_option maxRecDepth 100000 in
def Qb5 : Zj Try.prog 26 QZ :=
 YQ (Zp 0 1 cI (Zp 1 1 cI (Zp 2 1 cI (Zp 3 1 cI Qao)))) (fun x => ⟨x.1, x.2.1, x.2.2.1, x.2.2.2.1⟩) Try.underlying26
set_option maxRecDepth 100000 in
def cSt : Zj Try.prog 28 St :=
 YQ (Zp 0 1 cJ (Zp 1 1 cJ Qao)) (fun x => ⟨x.1, x.2.1⟩) Try.underlying28
set_option maxRecDepth 100000 in
def cWr : Zj Try.prog 24 Wr :=
 YQ (Zp 0 1 cS (Zp 1 1 cO (Zp 2 1 cS Qao))) (fun x => ⟨x.1, x.2.1, x.2.2.1⟩) Try.underlying24
section
variable {w : World} {S : Nat → Prop} {vs : List Value}
theorem Qbe {t : QZ} (h : Qb5.ok w S vs t) : vs = XM t := by
 obtain ⟨hlen, ⟨x0, x1, x2, x3, x4⟩, hx, ⟨h0, -⟩, ⟨h1, -⟩, ⟨h2, -⟩, ⟨h3, -⟩, -⟩ := h;have hlen : vs.length = 4 := hlen.trans (by kernel_rfl)
 match vs, hlen with
 | [a0, a1, a2, a3], _ =>
  obtain rfl := (List.cons.inj h0).1;obtain rfl := (List.cons.inj h1).1;obtain rfl := (List.cons.inj h2).1;obtain rfl := (List.cons.inj h3).1;rw [hx]; rfl
theorem Qbu {t : St} (h : cSt.ok w S vs t) : vs = QN t := by
 obtain ⟨hlen, ⟨x0, x1, x2⟩, hx, ⟨h0, -⟩, ⟨h1, -⟩, -⟩ := h;have hlen : vs.length = 2 := hlen.trans (by kernel_rfl)
 match vs, hlen with
 | [a0, a1], _ =>
  obtain rfl := (List.cons.inj h0).1;obtain rfl := (List.cons.inj h1).1;rw [hx]; rfl
theorem Qas {t : Wr} (h : cWr.ok w S vs t) : vs = Z9 t ∧ t.key.length ≤ maxLen ∧ t.data.length ≤ maxLen := by
 obtain ⟨hlen, ⟨x0, x1, x2, x3⟩, hx, ⟨h0, k0⟩, h1, ⟨h2, k2⟩, -⟩ := h;have hlen : vs.length = 3 := hlen.trans (by kernel_rfl)
 match vs, hlen with
 | [a0, a1, a2], _ =>
  obtain rfl := (List.cons.inj h0).1;obtain rfl := (List.cons.inj h1).1;obtain rfl := (List.cons.inj h2).1;subst hx;exact ⟨rfl, k0, k2⟩
end
end Go.Proofs.Ytoldelocfmpccaa
namespace Go.Proofs.Ytoldelocfmpccaa
open Go.RowKit
set_option maxHeartbeats 4000000 in
theorem Qan (v v' : Value) (cs : List Cel) (S S' : Nat → Prop) (w : World) (hv : QU w S v cs) (hv' : QU w S' v' cs) (hn : cs.length ≤ 100000) (hn2 : ∀ c ∈ cs, c.vers.length ≤ 1000000) :
  Calls Try.prog 29 #[v, v'] w fun e w' => e = .returned (.bool true) ∧ Qa (fun _ => True) w w' := by
 obtain ⟨A, cp, rfl, hc, hm⟩ := hv.form;obtain ⟨A', cp', rfl, hc', hm'⟩ := hv'.form;have Hv := LH hv;have Hv' := LH hv';have Hn2 := LH hn2;unfold maxLen at hm hm';clear hv hv' hn2;go_enter Try.func29, Try.ntmps29;go_wp2;go_loopw [5, 6, 7, 8] (fun i _ _ _ wr => ∃ k : Nat, i = .int .i64 k ∧ k ≤ cs.length ∧ Qa (fun _ => True) w wr) (fun i _ _ _ _ => cs.length - (intOf i).toNat)
 case atStart => exact ⟨0, rfl, Nat.zero_le _, Qa.refl _ _⟩
 case round =>
  obtain ⟨k, rfl, hk, hS⟩ := hrel;obtain ⟨wo, rfl⟩ : ∃ wo : World, wo = wr := ⟨_, rfl⟩;have HS := LH hS;by_cases hlt : k < cs.length
  ·obtain ⟨ad, u, rfl, -, hvr, c0, c1, c2, c3, c4, c5, c6, c7, c8, c9, c10, c11⟩ := QU.cells12 (Hv.out.keepAll hS) hlt;obtain ⟨ad', u', rfl, -, hvr', d0, d1, d2, d3, d4, d5, d6, d7, d8, d9, d10, d11⟩ := QU.cells12 (Hv'.out.keepAll hS) hlt;obtain ⟨Au, cu, rfl, hq1, hq2⟩ := hvr.form;obtain ⟨Au', cu', rfl, hq1', hq2'⟩ := hvr'.form;unfold maxLen at hq2 hq2';have x1 : (0 : Int) ≤ (k : Int) := by omega
   have x2 : (k : Int) < (cs.length : Int) := by omega
   have hab := World.block_lt_of_cell? wo _ c0;have hab' := World.block_lt_of_cell? wo _ d0;have hcl := Hn2.out cs[k] (List.getElem_mem hlt);generalize cs[k] = c at *;have Hvr := LH hvr;have Hvr' := LH hvr';clear hvr hvr' hS;go_wp2;go_region
   ·have rp := ((Row.new wo 64 (Qj (.slice Au c.vers.length cu, c))).keep ((ST).alloc (.cells (Qj (.slice Au' c.vers.length cu', c)).toArray 64)) tv).keep ((ST).drew) tv;have rq := (Row.new (wo.alloc (.cells (Qj (.slice Au c.vers.length cu, c)).toArray 64)) 64 (Qj (.slice Au' c.vers.length cu', c))).keep ((ST).drew) tv;rw [World.size_alloc] at rq;have hS7 := (((Qa.refl (fun _ => True) wo).alloc (.cells (Qj (.slice Au c.vers.length cu, c)).toArray 64)).alloc (.cells (Qj (.slice Au' c.vers.length cu', c)).toArray 64)).drew;simp only [Qj, Qn, List.cons_append, List.nil_append] at rp rq hS7;clear c0 c1 c2 c3 c4 c5 c6 c7 c8 c9 c10 c11 d0 d1 d2 d3 d4 d5 d6 d7 d8 d9 d10 d11;revert hS7 rp rq;generalize ((wo.alloc _).alloc _).drew = W7;intro rp rq hS7;have z0 := rp.lt;have z1 := rq.lt;obtain ⟨a0, a1, a2, a3, a4, a5, a6, a7, a8, a9, a10, a11, -⟩ := QD rp;obtain ⟨b0, b1, b2, b3, b4, b5, b6, b7, b8, b9, b10, b11, -⟩ := QD rq;have RP := LH rp;have RQ := LH rq;have HS7 := LH hS7;clear rp rq hS7;go_wp2;clear a0 a1 a2 a3 a4 a5 a6 a7 a8 a9 a10 a11 b0 b1 b2 b3 b4 b5 b6 b7 b8 b9 b10 b11;go_loopw [8] (fun i wi => ∃ j : Nat, i = .int .i64 j ∧ j ≤ c.vers.length ∧ Qa (fun _ => True) W7 wi) (fun i _ => c.vers.length - (intOf i).toNat)
    case atStart => exact ⟨0, rfl, Nat.zero_le _, Qa.refl _ _⟩
    case round =>
     obtain ⟨j, rfl, hj, hSi⟩ := hrel;have a1 : wr.cell? ⟨wo.heap.size, 1, none⟩ = some (.slice Au c.vers.length cu) := (RP.out.keep hSi tv).cell 1;have b1 : wr.cell? ⟨(wo.heap.size + 1), 1, none⟩ = some (.slice Au' c.vers.length cu') := (RQ.out.keep hSi tv).cell 1;have HSi := LH hSi;by_cases hjl : j < c.vers.length
     ·obtain ⟨ad2, rfl, -, d0, d1, d2, d3⟩ := Zl.cells (Qw.keepAll Hvr.out (HS7.out.trans hSi)) hjl;obtain ⟨ad3, rfl, -, e0, e1, e2, e3⟩ := Zl.cells (Qw.keepAll Hvr'.out (HS7.out.trans hSi)) hjl;have x3 : (0 : Int) ≤ (j : Int) := by omega
      have x4 : (j : Int) < (c.vers.length : Int) := by omega
      generalize c.vers[j] = y at *;clear hSi;go_wp2;go_quiet (fail);rename_i nq;go_wp2;go_roundw
      case rel => exact ⟨j + 1, by go_num, by omega, HSi.out.drewN nq⟩
      case measure => simp [intOf]; omega
     ·obtain rfl : j = c.vers.length := by omega
      clear hSi;go_wp2;go_roundw
      case rel => exact ⟨k + 1, by go_num, by omega, (HS.out.trans HS7.out).trans HSi.out⟩
      case measure => simp [intOf]; omega
   ·have rq := ((Row.new wo 64 (Qj (.slice Au' c.vers.length cu', c))).keep ((ST).alloc (.cells (Qj (.slice Au c.vers.length cu, c)).toArray 64)) tv).keep ((ST).drew) tv;have rp := (Row.new (wo.alloc (.cells (Qj (.slice Au' c.vers.length cu', c)).toArray 64)) 64 (Qj (.slice Au c.vers.length cu, c))).keep ((ST).drew) tv;rw [World.size_alloc] at rp;have hS7 := (((Qa.refl (fun _ => True) wo).alloc (.cells (Qj (.slice Au' c.vers.length cu', c)).toArray 64)).alloc (.cells (Qj (.slice Au c.vers.length cu, c)).toArray 64)).drew;simp only [Qj, Qn, List.cons_append, List.nil_append] at rp rq hS7;clear c0 c1 c2 c3 c4 c5 c6 c7 c8 c9 c10 c11 d0 d1 d2 d3 d4 d5 d6 d7 d8 d9 d10 d11;revert hS7 rp rq;generalize ((wo.alloc _).alloc _).drew = W7;intro rq rp hS7;have z0 := rp.lt;have z1 := rq.lt;obtain ⟨a0, a1, a2, a3, a4, a5, a6, a7, a8, a9, a10, a11, -⟩ := QD rp;obtain ⟨b0, b1, b2, b3, b4, b5, b6, b7, b8, b9, b10, b11, -⟩ := QD rq;have RP := LH rp;have RQ := LH rq;have HS7 := LH hS7;clear rp rq hS7;go_wp2;clear a0 a1 a2 a3 a4 a5 a6 a7 a8 a9 a10 a11 b0 b1 b2 b3 b4 b5 b6 b7 b8 b9 b10 b11;go_loopw [8] (fun i wi => ∃ j : Nat, i = .int .i64 j ∧ j ≤ c.vers.length ∧ Qa (fun _ => True) W7 wi) (fun i _ => c.vers.length - (intOf i).toNat)
    case atStart => exact ⟨0, rfl, Nat.zero_le _, Qa.refl _ _⟩
    case round =>
     obtain ⟨j, rfl, hj, hSi⟩ := hrel;have a1 : wr.cell? ⟨(wo.heap.size + 1), 1, none⟩ = some (.slice Au c.vers.length cu) := (RP.out.keep hSi tv).cell 1;have b1 : wr.cell? ⟨wo.heap.size, 1, none⟩ = some (.slice Au' c.vers.length cu') := (RQ.out.keep hSi tv).cell 1;have HSi := LH hSi;by_cases hjl : j < c.vers.length
     ·obtain ⟨ad2, rfl, -, d0, d1, d2, d3⟩ := Zl.cells (Qw.keepAll Hvr.out (HS7.out.trans hSi)) hjl;obtain ⟨ad3, rfl, -, e0, e1, e2, e3⟩ := Zl.cells (Qw.keepAll Hvr'.out (HS7.out.trans hSi)) hjl;have x3 : (0 : Int) ≤ (j : Int) := by omega
      have x4 : (j : Int) < (c.vers.length : Int) := by omega
      generalize c.vers[j] = y at *;clear hSi;go_wp2;go_quiet (fail);rename_i nq;go_wp2;go_roundw
      case rel => exact ⟨j + 1, by go_num, by omega, HSi.out.drewN nq⟩
      case measure => simp [intOf]; omega
     ·obtain rfl : j = c.vers.length := by omega
      clear hSi;go_wp2;go_roundw
      case rel => exact ⟨k + 1, by go_num, by omega, (HS.out.trans HS7.out).trans HSi.out⟩
      case measure => simp [intOf]; omega
  ·obtain rfl : k = cs.length := by omega
   clear hS;go_wp2;go_ret;exact ⟨rfl, HS.out⟩
structure XO (n : Nat) (cs : List Cel) : Prop where
 good : Zb cs
 few : Few n cs
section
variable {n : Nat} {cs : List Cel}
theorem XO.len (h : XO n cs) (hn : n ≤ 100000 := by omega) : cs.length ≤ 100000 := Nat.le_trans h.few.1 hn
theorem XO.vers (h : XO n cs) (hn : n ≤ 100000 := by omega) : ∀ c ∈ cs, c.vers.length ≤ 1000000 := fun c hc => by have := h.few.2 c hc; omega
theorem XO.sort (h : XO n cs) : ∀ c ∈ cs, XU c.vers := fun c hc => (h.good.each c hc).sort
theorem XO.op (h : XO n cs) (o : OpT) : XO (n + 1) (opF cs o) := ⟨Qak h.good o, Qa8 h.good h.few o⟩
theorem XO.setl (h : XO n cs) (b : QZ) (y : Bool) : XO (n + 1) (Xz cs b y) := by
 have := h.op ⟨1, ⟨[], false, []⟩, { Lck.zero with by_ := b }, y⟩;exact this
theorem XO.trim (h : XO n cs) (a : St) : XO (n + 1) (XP cs a) := by
 have := h.op ⟨2, ⟨[], false, []⟩, { Lck.zero with at_ := a }, false⟩;exact this
theorem XO.lock (h : XO n cs) (x : Wr) (l : Lck) : XO (n + 1) (ZV cs x.key (XJ x l)) := by
 have := h.op ⟨0, x, l, false⟩;exact this
end
theorem Qa0 (w : World) (S : Nat → Prop) : QU w S (.slice none 0 0) [] := ⟨[], rfl, Qw.nil_ _ _ _ _ (by simp [maxLen]), fun i h => absurd h (Nat.not_lt_zero _)⟩
end Go.Proofs.Ytoldelocfmpccaa
namespace Go.Proofs.Ytoldelocfmpccaa
open Go.RowKit Go.ChangeShapes Go.WideShapes Go.ChangeAt
set_option maxRecDepth 100000 in
def Qai : Zj Try.prog 53 (List UInt8 × List UInt8) :=
 YQ (Zp 0 1 cS (Zp 1 1 cS Qao)) (fun x => (x.1, x.2.1)) Try.underlying53
def Qby (x : List UInt8 × List UInt8) : List Value := [.string (str x.1), .string (str x.2)]
theorem Vv {w : World} {S : Nat → Prop} {vs : List Value} {t : List UInt8 × List UInt8} (h : Qai.ok w S vs t) : vs = Qby t ∧ t.1.length ≤ maxLen ∧ t.2.length ≤ maxLen := by
 obtain ⟨hlen, ⟨x0, x1, x2⟩, hx, ⟨h0, k0⟩, ⟨h1, k1⟩, -⟩ := h;have hlen : vs.length = 2 := hlen.trans (by kernel_rfl)
 match vs, hlen with
 | [a0, a1], _ =>
  obtain rfl := (List.cons.inj h0).1;obtain rfl := (List.cons.inj h1).1;subst hx;exact ⟨rfl, k0, k1⟩
end Go.Proofs.Ytoldelocfmpccaa
namespace Go.Proofs.Ytoldelocfmpccaa
def Ky (ops : Array Oper) (n : Nat) : Bool :=
 (List.range n).all fun i => ((ops[i]?).map fun o => o.after.all (fun e => decide (e.on < i) || !Region.binds .any e) && o.dst.isSome && (List.range n).all fun j => decide (j = i) || Q9 ops j != Q9 ops i).getD false
def Xl (ops : Array Oper) (i j : Nat) : Bool := ((ops[i]?).map fun o => XR o j).getD false
def KD (ops : Array Oper) : Nat → Nat → Nat → Bool
 | 0, t, i => Xl ops t i
 | f + 1, t, i => Xl ops t i || (List.range ops.size).any fun j => Xl ops t j && KD ops f j i
def Qb1 (ops : Array Oper) (n d : Nat) : Bool :=
 (List.range ops.size).all fun t => decide (t < n) || (List.range n).all fun i => decide (i = d) || KD ops 6 t i
def Z3 (s n d : Nat) : Array Bool := ((List.range s).map fun j => decide (j < n) && decide (j ≠ d)).toArray
def Y6 (ops : Array Oper) (n d : Nat) : Bool :=
 decide (n < ops.size) && Ky ops n && Qb1 ops n d && Region.seqB .any ops (ops.size - n) n (Z3 ops.size n ops.size) &&
  (decide (n ≤ d) || (decide (Region.ready .any ops (Z3 ops.size n d) = [d, n]) && decide (Region.ready .any ops ((Z3 ops.size n d).setIfInBounds n true) = [d]) &&
   Region.seqB .any ops (ops.size - n - 1) (n + 1) (((Z3 ops.size n d).setIfInBounds n true).setIfInBounds d true)))
def XX (ops : Array Oper) (a : Act) (k : Nat) : Value := a.tmps.getD (Q9 ops k) undef
def Uv (P : Program) (ops : Array Oper) (φ : Nat → (Nat → Value) → World → Prop) (a0 : Act) (w0 : World) (Q : Exit → Act → World → Prop) (i : Nat) (o : Oper) : Prop :=
 ∀ (a : Act) (w : World), Qa (fun _ => True) w0 w → a.defers = a0.defers → a.tmps.size = a0.tmps.size →
  (∀ d, KQ ops i d = true → a.tmps.getD d undef = a0.tmps.getD d undef) →
  (∀ j, XR o j = true → φ j (XX ops a) w) →
  ∀ K : Act → World → Prop, (∀ v w', (∀ u, u i = v → (∀ j, XR o j = true → u j = XX ops a j) → φ i u w') → Qa (fun _ => True) w w' → K (a.put o.dst v) w') →
   if Region.wanted o (yielded ops a.tmps) = true then Oper.wp P o a w K Q else K (a.put o.dst undef) w
structure Jz (ops : Array Oper) (n : Nat) (φ : Nat → (Nat → Value) → World → Prop) (a0 : Act) (w0 : World) (listed : Array Bool) (a : Act) (w : World) : Prop where
 defers : a.defers = a0.defers
 size : a.tmps.size = a0.tmps.size
 same : Qa (fun _ => True) w0 w
 kept : ∀ d, (∀ j o, ops[j]? = some o → listed.getD j true = true → o.dst ≠ some d) → a.tmps[d]? = a0.tmps[d]?
 done : ∀ j, j < n → listed.getD j true = true → φ j (XX ops a) w
 down : ∀ j o e, ops[j]? = some o → listed.getD j true = true → e ∈ o.after → Region.binds .any e = true → listed.getD e.on true = true
 tail : ∀ t, n ≤ t → t < ops.size → listed.getD t true = false
section
variable {P : Program} {ops : Array Oper} {n : Nat} {φ : Nat → (Nat → Value) → World → Prop} {a0 : Act} {w0 : World} {Q : Exit → Act → World → Prop}
theorem Zd (hp : Ky ops n = true) {i : Nat} {o : Oper} (hi : i < n) (ho : ops[i]? = some o) :
  (∀ e ∈ o.after, Region.binds .any e = true → e.on < i) ∧ (∃ d, o.dst = some d) ∧ ∀ j, j < n → j ≠ i → Q9 ops j ≠ Q9 ops i := by
 have h := List.all_eq_true.1 hp i (List.mem_range.2 hi);rw [ho] at h;simp only [Option.map_some, Option.getD_some, Bool.and_eq_true, Array.all_eq_true_iff_forall_mem, List.all_eq_true, List.mem_range] at h;obtain ⟨⟨h1, h2⟩, h3⟩ := h;refine ⟨fun e he hb => ?_, Option.isSome_iff_exists.1 h2, fun j hj hne => ?_⟩
 ·have := h1 e he;simpa [hb] using this
 ·have := h3 j hj;simpa [hne] using this
theorem JN {listed : Array Bool} {i : Nat} (hi : i < listed.size) (j : Nat) : (listed.setIfInBounds i true).getD j true = if i = j then true else listed.getD j true := by
 simp only [Array.getD_eq_getD_getElem?, Array.getElem?_setIfInBounds];split
 ·rename_i e; subst e; simp [hi]
 ·rfl
theorem Jz.step (hp : Ky ops n = true) (hstab : ∀ i v w w', φ i v w → Qa (fun _ => True) w w' → φ i v w') (hdep : ∀ i u v w, φ i u w → u i = v i → (∀ j, Xl ops i j = true → u j = v j) → φ i v w) (hsz : ∀ (i : Nat) (o : Oper) (d : Nat), ops[i]? = some o → o.dst = some d → d < a0.tmps.size)
  {listed : Array Bool} {a : Act} {w w' : World} {i : Nat} {o : Oper} {v : Value} (hl : listed.size = ops.size) (hin : i < n) (ho : ops[i]? = some o) (hni : listed.getD i true = false) (hr : ∀ e ∈ o.after, Region.binds .any e = true → listed.getD e.on true = true)
  (h : Jz ops n φ a0 w0 listed a w) (hs : Qa (fun _ => True) w w') (hv : ∀ u, u i = v → (∀ j, XR o j = true → u j = XX ops a j) → φ i u w') : Jz ops n φ a0 w0 (listed.setIfInBounds i true) (a.put o.dst v) w' := by
 have hi : i < ops.size := (Array.getElem?_eq_some_iff.1 ho).1;obtain ⟨hback, ⟨d, hd⟩, hdist⟩ := Zd hp hin ho;have hdl : d < a.tmps.size := by rw [h.size]; exact hsz i o d ho hd
 have hset := JN (listed := listed) (i := i) (by omega);refine ⟨by rw [hd]; exact h.defers, by rw [hd]; simp [Act.put]; exact h.size, h.same.trans hs, ?_, ?_, ?_, ?_⟩
 ·intro k hk
  have hkd : d ≠ k := by
   intro e;exact hk i o ho (by rw [hset, if_pos rfl]) (by rw [hd, e])
  have : (a.put o.dst v).tmps[k]? = a.tmps[k]? := by
   rw [hd];simp only [Act.put, Array.getElem?_setIfInBounds, if_neg hkd]
  rw [this];refine h.kept k fun j oj hoj hlj => hk j oj hoj ?_
  rw [hset]; split
  ·rfl
  ·exact hlj
 ·intro j hj hlj;rw [hset] at hlj
  have hval : ∀ k, k < n → k ≠ i → XX ops (a.put o.dst v) k = XX ops a k := fun k hk hki => by
   unfold XX;rw [hd, Z8 _ _ _ _ hdl, if_neg (fun e => hdist k hk hki (by rw [Zs ho hd]; exact e.symm))]
  by_cases hij : i = j
  ·subst hij;refine hv _ ?_ fun k hk => ?_
   ·unfold XX;rw [hd, Z8 _ _ _ _ hdl, if_pos (Zs ho hd).symm]
   ·simp only [XR, List.any_eq_true, Bool.and_eq_true, beq_iff_eq, Array.mem_toList_iff] at hk;obtain ⟨e, he, h2, h3⟩ := hk;have := hback e he h3;exact hval k (by omega) (by omega)
  ·rw [if_neg hij] at hlj;refine hstab _ _ _ _ (hdep _ _ _ _ (h.done j hj hlj) (hval j hj fun e => hij e.symm).symm fun k hk => ?_) hs
   obtain ⟨oj, hoj⟩ : ∃ oj, ops[j]? = some oj := by
    cases e : ops[j]? with
    | none => simp [Xl, e] at hk
    | some oj => exact ⟨oj, rfl⟩
   simp only [Xl, hoj, Option.map_some, Option.getD_some, XR, List.any_eq_true, Bool.and_eq_true, beq_iff_eq, Array.mem_toList_iff] at hk;obtain ⟨e, he, h2, h3⟩ := hk;have hk1 := (Zd hp hj hoj).1 e he h3;refine (hval k (by omega) fun e' => ?_).symm;have := h.down j oj e hoj hlj he h3;rw [h2, e', hni] at this;cases this
 ·intro j oj e hoj hlj he hb;rw [hset] at hlj ⊢;split
  ·rfl
  ·by_cases hij : i = j
   ·subst hij;rw [ho] at hoj;injection hoj with hoj;subst hoj;exact hr e he hb
   ·rw [if_neg hij] at hlj;exact h.down j oj e hoj hlj he hb
 ·intro t ht hts;rw [hset, if_neg (by omega)];exact h.tail t ht hts
theorem KN {listed : Array Bool} {s k d : Nat} (hs : listed.size = s) (h : ∀ j, j < s → listed.getD j true = (decide (j < k) && decide (j ≠ d))) : listed = Z3 s k d := by
 apply Array.ext
 ·simp [Z3, hs]
 ·intro i h1 h2;have := h i (by omega);rw [Array.getD_eq_getD_getElem?, Array.getElem?_eq_getElem h1, Option.getD_some] at this;rw [this];simp [Z3]
structure Vn (P : Program) (l : List Oper) (n d : Nat) (φ : Nat → (Nat → Value) → World → Prop) (a0 : Act) (w0 : World) (Q : Exit → Act → World → Prop) : Prop where
 all : ∀ a w, Qa (fun _ => True) w0 w → a.defers = a0.defers → a.tmps.size = a0.tmps.size → (∀ k, (∀ j, j < n → Q9 l.toArray j ≠ k) → a.tmps.getD k undef = a0.tmps.getD k undef) →
  (∀ j, j < n → φ j (XX l.toArray a) w) → wpList P l.toArray Q (l.drop n) a w
 but : ∀ od on, l[d]? = some od → l[n]? = some on → ∀ a w, Qa (fun _ => True) w0 w → a.defers = a0.defers → a.tmps.size = a0.tmps.size → (∀ k, (∀ j, j < n → j ≠ d → Q9 l.toArray j ≠ k) → a.tmps.getD k undef = a0.tmps.getD k undef) →
  (∀ j, j < n → j ≠ d → φ j (XX l.toArray a) w) → wpList P l.toArray Q (on :: od :: l.drop (n + 1)) a w
theorem VZ {l : List Oper} {d : Nat} (hB : Y6 l.toArray n d = true) (hstab : ∀ i v w w', φ i v w → Qa (fun _ => True) w w' → φ i v w') (hdep : ∀ i u v w, φ i u w → u i = v i → (∀ j, Xl l.toArray i j = true → u j = v j) → φ i v w) (hsz : ∀ (i : Nat) (o : Oper) (d : Nat), l.toArray[i]? = some o → o.dst = some d → d < a0.tmps.size)
  (hstep : ∀ i o, i < n → l.toArray[i]? = some o → Uv P l.toArray φ a0 w0 Q i o) (hend : Vn P l n d φ a0 w0 Q) :
  ∀ (fuel : Nat) (listed : Array Bool) (a : Act) (w : World), listed.size = l.toArray.size → ((List.range n).filter fun i => !listed.getD i true).length = fuel →
   Jz l.toArray n φ a0 w0 listed a w → wpAny P .any l.toArray Q (fuel + (l.toArray.size - n)) listed a w := by
 simp only [Y6, Bool.and_eq_true, decide_eq_true_eq, Bool.or_eq_true] at hB;obtain ⟨⟨⟨⟨hn, hp⟩, hlate⟩, hseq⟩, hd⟩ := hB;have hlen : l.toArray.size = l.length := by simp
 have late : ∀ t, n ≤ t → t < l.toArray.size → ∀ i, i < n → i ≠ d → KD l.toArray 6 t i = true := by
  intro t ht hts i hi hid;have h := List.all_eq_true.1 hlate t (List.mem_range.2 hts);simp only [Bool.or_eq_true, decide_eq_true_eq, List.all_eq_true, List.mem_range] at h;rcases h with h | h
  ·omega
  ·exact (h i hi).resolve_left hid
 have reach : ∀ {listed : Array Bool} {a : Act} {w : World}, Jz l.toArray n φ a0 w0 listed a w → ∀ (f t i : Nat), (∀ ot, l.toArray[t]? = some ot → ∀ e ∈ ot.after, Region.binds .any e = true → listed.getD e.on true = true) → KD l.toArray f t i = true → listed.getD i true = true := by
  intro listed a w h f
  have one : ∀ t i, (∀ ot, l.toArray[t]? = some ot → ∀ e ∈ ot.after, Region.binds .any e = true → listed.getD e.on true = true) → Xl l.toArray t i = true → listed.getD i true = true := by
   intro t i ht hw
   obtain ⟨ot, hot⟩ : ∃ ot, l.toArray[t]? = some ot := by
    cases e : l.toArray[t]? with
    | none => simp [Xl, e] at hw
    | some ot => exact ⟨ot, rfl⟩
   simp only [Xl, hot, Option.map_some, Option.getD_some, XR, List.any_eq_true, Bool.and_eq_true, beq_iff_eq, Array.mem_toList_iff] at hw;obtain ⟨e, he, h2, h3⟩ := hw;rw [← h2];exact ht ot hot e he h3
  induction f with
  | zero => exact one
  | succ f ihf =>
   intro t i ht hr;simp only [KD, Bool.or_eq_true, List.any_eq_true, List.mem_range, Bool.and_eq_true] at hr;rcases hr with hr | ⟨j, hj, h1, h2⟩
   ·exact one t i ht hr
   ·exact ihf j i (fun oj hoj e he hb => h.down j oj e hoj (one t j ht h1) he hb) h2
 have slots : ∀ {listed : Array Bool} {a : Act} {w : World} (D : Nat), Jz l.toArray n φ a0 w0 listed a w → (∀ j, j < n → listed.getD j true = true → j ≠ D) → ∀ k, (∀ j, j < n → j ≠ D → Q9 l.toArray j ≠ k) → a.tmps.getD k undef = a0.tmps.getD k undef := by
  intro listed a w D h hD k hk
  have : a.tmps[k]? = a0.tmps[k]? := by
   refine h.kept k fun j oj hoj hlj e => ?_
   rcases Nat.lt_or_ge j n with hj | hj
   ·exact hk j hj (hD j hj hlj) (Zs hoj e)
   ·rw [h.tail j hj (Array.getElem?_eq_some_iff.1 hoj).1] at hlj;cases hlj
  simp [Array.getD_eq_getD_getElem?, this]
 intro fuel
 induction fuel with
 | zero =>
  intro listed a w hl hc h
  have hall : ∀ j, j < n → listed.getD j true = true := by
   intro j hj;have hf := List.eq_nil_of_length_eq_zero hc;rw [List.filter_eq_nil_iff] at hf;have := hf j (List.mem_range.2 hj);simpa using this
  have he : listed = Z3 l.toArray.size n l.toArray.size := KN hl fun j hj => by
   rcases Nat.lt_or_ge j n with h1 | h1
   ·rw [hall j h1]; simp [h1]; simp at hj; omega
   ·rw [h.tail j h1 hj]; simp; omega
  rw [Nat.zero_add];have hdl : (l.drop n).length = l.toArray.size - n := by simp
  have := wpAny_of_seq (P := P) (md := .any) (ops := l.toArray) (Q' := Q) (l.drop n) n listed a w (fun j => by simp [List.getElem?_drop]) (by rw [hdl, he]; exact hseq)
   (hend.all a w h.same h.defers h.size (fun k hk => slots l.toArray.size h (fun j hj _ => by omega) k fun j hj _ => hk j hj) fun j hj => h.done j hj (hall j hj))
  rwa [hdl] at this
 | succ fuel ih =>
  intro listed a w hl hc h;rw [show fuel + 1 + (l.toArray.size - n) = (fuel + (l.toArray.size - n)) + 1 by omega]
  have hex : ∃ j, j < n ∧ listed.getD j true = false := by
   have : 0 < ((List.range n).filter fun i => !listed.getD i true).length := by omega
   obtain ⟨j, hj⟩ := List.exists_mem_of_length_pos this;rw [List.mem_filter, List.mem_range] at hj;exact ⟨j, hj.1, by simpa using hj.2⟩
  refine ⟨fun hr => ?_, fun i hi => ?_⟩
  ·exfalso
   have key : ∀ i, i < n → listed.getD i true = true := by
    intro i
    induction i using Nat.strongRecOn with
    | _ i ihi =>
     intro hi;cases hli : listed.getD i true with
     | true => rfl
     | false =>
      exfalso;obtain ⟨o, ho⟩ : ∃ o, l.toArray[i]? = some o := ⟨_, Array.getElem?_eq_getElem (by omega)⟩
      have : i ∈ Region.ready .any l.toArray listed := by
       unfold Region.ready;rw [List.mem_filter];refine ⟨List.mem_range.2 (by omega), ?_⟩;rw [ho, hli];simp only [Bool.not_false, Bool.true_and, Option.map_some, Option.getD_some, Array.all_eq_true_iff_forall_mem];intro e he;by_cases hb : Region.binds .any e = true
       ·have hlt := (Zd hp hi ho).1 e he hb;have hz : listed.getD e.on false = true := KK (by omega) (ihi e.on hlt (by omega));rw [hz]; simp
       ·simp [hb]
      rw [hr] at this;cases this
   obtain ⟨j, hj, hjf⟩ := hex;rw [key j hj] at hjf;cases hjf
  have hi0 := hi;unfold Region.ready at hi;rw [List.mem_filter] at hi;obtain ⟨hi, hrd⟩ := hi;have hi := List.mem_range.1 hi;obtain ⟨o, ho⟩ : ∃ o, l.toArray[i]? = some o := ⟨_, Array.getElem?_eq_getElem hi⟩;rw [ho] at hrd;simp only [Bool.and_eq_true, Bool.not_eq_true', Option.map_some, Option.getD_some, Array.all_eq_true_iff_forall_mem] at hrd;obtain ⟨hni, hrd⟩ := hrd
  have hrr : ∀ e ∈ o.after, Region.binds .any e = true → listed.getD e.on true = true := by
   intro e he hb;have := hrd e he;rw [hb] at this;exact KE (by simpa using this)
  by_cases hin : i < n
  ·refine wpOp_step ho fun K hK => ?_
   refine hstep i o hin ho a w h.same h.defers h.size (fun d hd => ?_) (fun j hj => ?_) K (fun v w' hv hs => hK _ _ ?_)
   ·have : a.tmps[d]? = a0.tmps[d]? := by
     refine h.kept d fun j oj hoj hlj e => ?_
     have hm : oj ∈ l.toArray.toList := by
      rw [Array.mem_toList_iff];exact Array.mem_of_getElem? hoj
     have := List.all_eq_true.1 hd oj hm;simp only [e, beq_self_eq_true, Bool.not_true, Bool.false_or, XR, List.any_eq_true, Bool.and_eq_true, beq_iff_eq, Array.mem_toList_iff] at this;obtain ⟨ed, h1, h2, h3⟩ := this;have := h.down j oj ed hoj hlj h1 h3;rw [h2, hni] at this;cases this
    simp [Array.getD_eq_getD_getElem?, this]
   ·simp only [XR, List.any_eq_true, Bool.and_eq_true, beq_iff_eq, Array.mem_toList_iff] at hj;obtain ⟨e, he, h2, h3⟩ := hj;have hlt := (Zd hp hin ho).1 e he h3;exact h.done j (by omega) (by rw [← h2]; exact hrr e he h3)
   ·refine ih _ _ _ (by simpa using hl) ?_ (Jz.step hp hstab hdep hsz hl hin ho hni hrr h hs hv);refine Yj (i := i) (p := fun i => !listed.getD i true) hin (by rw [hni]; rfl) (fun j => ?_) hc;show (!(listed.setIfInBounds i true).getD j true) = _;rw [JN (by omega)];by_cases hij : i = j
    ·subst hij; simp
    ·rw [if_neg hij];have : (j != i) = true := by simpa using fun e : j = i => hij e.symm
     rw [this, Bool.and_true]
  ·have hbut : ∀ j, j < n → j ≠ d → listed.getD j true = true := by
    intro j hj hjd
    exact reach h 6 i j (fun ot hot e he hb => by
     rw [ho] at hot;injection hot with hot;subst hot
     exact hrr e he hb) (late i (by omega) hi j hj hjd)
   obtain ⟨j, hj, hjf⟩ := hex
   have hjd : j = d := by
    by_cases e : j = d
    ·exact e
    ·rw [hbut j hj e] at hjf; cases hjf
   subst hjd;rcases hd with hd | ⟨⟨hr1, hr2⟩, hseq2⟩
   ·omega
   have he : listed = Z3 l.toArray.size n j := KN hl fun k hk => by
    rcases Nat.lt_or_ge k n with h1 | h1
    ·by_cases hkj : k = j
     ·subst hkj; rw [hjf]; simp
     ·rw [hbut k h1 hkj]; simp [h1, hkj]
    ·rw [h.tail k h1 hk]; simp; omega
   have hf0 : fuel = 0 := by
    have : ((List.range n).filter fun i => !listed.getD i true) = (List.range n).filter fun i => decide (i = j) := by
     apply List.filter_congr;intro k hk;have hk := List.mem_range.1 hk;by_cases hkj : k = j
     ·subst hkj; simp [hjf]
     ·simp [hbut k hk hkj, hkj]
    rw [this] at hc
    have h1 : ((List.range n).filter fun i => decide (i = j)).length ≤ 1 := by
     have := List.nodup_range (n := n)
     have e : ((List.range n).filter fun i => decide (i = j)) = (List.range n).filter (· == j) := by
      apply List.filter_congr; intro k _; by_cases h : k = j <;> simp [h]
     rw [e, ← List.count_eq_length_filter];exact List.nodup_iff_count.1 this j
    omega
   subst hf0
   have hin' : i = n := by
    rw [he, hr1] at hi0;simp at hi0;omega
   subst hin';obtain ⟨od, hod⟩ : ∃ od, l.toArray[j]? = some od := ⟨_, Array.getElem?_eq_getElem (by omega)⟩;have hw := hend.but od o (by simpa using hod) (by simpa using ho) a w h.same h.defers h.size (slots j h fun k hk hlk e => by subst e; rw [hjf] at hlk; cases hlk) fun k hk hkj => h.done k hk (hbut k hk hkj)
   have hw1 : wpOp P l.toArray Q i (wpList P l.toArray Q (od :: l.drop (i + 1))) a w := by unfold wpOp; simp only [ho]; exact hw
   refine wpOp_mono (fun a' w' h' => ?_) hw1;rw [Nat.zero_add];obtain ⟨g, hg⟩ : ∃ g, l.toArray.size - i = g + 1 := ⟨l.toArray.size - i - 1, by omega⟩;rw [hg];refine ⟨fun h1 => ?_, fun k hk => ?_⟩
   ·rw [he, hr2] at h1; cases h1
   ·rw [he, hr2] at hk;obtain rfl : k = j := by simpa using hk
    have hw2 : wpOp P l.toArray Q k (wpList P l.toArray Q (l.drop (i + 1))) a' w' := by unfold wpOp; simp only [hod]; exact h'
    refine wpOp_mono (fun a'' w'' h'' => ?_) hw2;have hdl : (l.drop (i + 1)).length = g := by rw [List.length_drop]; omega
    have := wpAny_of_seq (P := P) (md := .any) (ops := l.toArray) (Q' := Q) (l.drop (i + 1)) (i + 1) ((listed.setIfInBounds i true).setIfInBounds k true) a'' w'' (fun j => by simp)
     (by rw [hdl, he, show g = l.toArray.size - i - 1 by omega]; exact hseq2) h''
    rwa [hdl] at this
end
theorem Yo {lj : List Oper} {a a0 : Act} (hd : a.defers = a0.defers) (hs : a.tmps.size = a0.tmps.size) (hsome : ∀ o ∈ lj, ∃ d, o.dst = some d) (hne : lj.Pairwise fun x y => x.dst ≠ y.dst)
  (hot : ∀ d, (∀ o ∈ lj, o.dst ≠ some d) → a.tmps.getD d undef = a0.tmps.getD d undef) : a = Qk a0 lj (lj.map fun o => a.tmps.getD (o.dst.getD 0) undef) := by
 refine UG (by rw [hd, ZJ]) (by rw [hs, Jb]) (fun d hdl => ?_);by_cases h : ∃ (j : Nat) (hj : j < lj.length), lj[j].dst = some d
 ·obtain ⟨j, hj, hjd⟩ := h;rw [J3 lj _ a0 j hj (by simpa using hj) hjd (fun k hk hjk hkd => ?_) (by rw [← hs]; exact hdl)]
  ·simp [hjd]
  ·exact List.pairwise_iff_getElem.1 hne j k hj hk hjk (by rw [hjd, hkd])
 ·rw [ZC lj _ a0 (fun o ho hod => h (by
   obtain ⟨j, hj, rfl⟩ := List.mem_iff_getElem.1 ho
   exact ⟨j, hj, hod⟩))]
  exact hot d fun o ho hod => h (by
   obtain ⟨j, hj, rfl⟩ := List.mem_iff_getElem.1 ho
   exact ⟨j, hj, hod⟩)
structure SP2 where
 k : Option Nat
 p : Value → Value → World → Prop
 st : ∀ u v w w', p u v w → Qa (fun _ => True) w w' → p u v w'
def SP2.of (s : SP) : SP2 := ⟨none, fun v _ w => s.p v w, fun u _ w w' h k => s.st u w w' h k⟩
def SP2.eq (u : Value) : SP2 := ⟨none, fun v _ _ => v = u, fun _ _ _ _ h _ => h⟩
def SP2.any : SP2 := ⟨none, fun _ _ _ => True, fun _ _ _ _ _ _ => tv⟩
def SP2.q (s : SP2) (v : Value) (u : Nat → Value) (w : World) : Prop := match s.k with | none => s.p v undef w | some k => s.p v (u k) w
def Ja (L : List SP2) (i : Nat) : SP2 := L.getD i SP2.any
def Y2 (L : List SP2) (i : Nat) (u : Nat → Value) (w : World) : Prop := (Ja L i).q (u i) u w
def KJ (ops : Array Oper) (L : List SP2) : Bool := (List.range L.length).all fun i => match (Ja L i).k with | none => true | some k => Xl ops i k
theorem Wp (L : List SP2) : ∀ i v w w', Y2 L i v w → Qa (fun _ => True) w w' → Y2 L i v w' := fun i v w w' h k => by
 unfold Y2 SP2.q at *;split at h <;> exact (Ja L i).st _ _ _ _ h k
theorem Vs {ops : Array Oper} {L : List SP2} (h : KJ ops L = true) {i k : Nat} (hk : (Ja L i).k = some k) : Xl ops i k = true := by
 rcases Nat.lt_or_ge i L.length with hi | hi
 ·have := List.all_eq_true.1 h i (List.mem_range.2 hi);rw [hk] at this;exact this
 ·have : Ja L i = SP2.any := by simp [Ja, hi]
  rw [this] at hk;cases hk
theorem YO {ops : Array Oper} {L : List SP2} (hl : KJ ops L = true) : ∀ i u v w, Y2 L i u w → u i = v i → (∀ j, Xl ops i j = true → u j = v j) → Y2 L i v w := fun i u v w h h1 h2 => by
 unfold Y2 SP2.q at *;cases hk : (Ja L i).k with
 | none => rw [hk] at h; simpa [h1] using h
 | some k =>
  rw [hk] at h;have := h2 k (Vs hl hk);simpa [h1, this] using h
def Kl (P : Program) (ops : Array Oper) (L : List SP2) (a0 : Act) (w0 : World) (Q : Exit → Act → World → Prop) (i : Nat) (o : Oper) : Prop :=
 ∀ (a : Act) (w : World), Qa (fun _ => True) w0 w → a.defers = a0.defers → a.tmps.size = a0.tmps.size →
  (∀ d, KQ ops i d = true → a.tmps.getD d undef = a0.tmps.getD d undef) →
  (∀ j, XR o j = true → Y2 L j (XX ops a) w) →
  ∀ K : Act → World → Prop, (∀ v w', (Ja L i).q v (XX ops a) w' → Qa (fun _ => True) w w' → K (a.put o.dst v) w') →
   if Region.wanted o (yielded ops a.tmps) = true then Oper.wp P o a w K Q else K (a.put o.dst undef) w
theorem Kl.two {P : Program} {ops : Array Oper} {L : List SP2} {a0 : Act} {w0 : World} {Q : Exit → Act → World → Prop} {i : Nat} {o : Oper} (hl : KJ ops L = true) (ho : ops[i]? = some o) (h : Kl P ops L a0 w0 Q i o) : Uv P ops (Y2 L) a0 w0 Q i o := by
 intro a w h1 h2 h3 h4 h5 K hK;refine h a w h1 h2 h3 h4 h5 K fun v w' hv hs => hK v w' (fun u hu hj => ?_) hs
 unfold Y2 SP2.q at *;cases hk : (Ja L i).k with
 | none => rw [hk] at hv; simpa [hu] using hv
 | some k =>
  rw [hk] at hv;have hw := Vs hl hk;simp only [Xl, ho, Option.map_some, Option.getD_some] at hw;simpa [hu, hj k hw] using hv
def JI (P : Program) (ops : Array Oper) (L : List SP2) (a0 : Act) (w0 : World) (Q : Exit → Act → World → Prop) : Nat → List Oper → Prop
 | _, [] => True
 | k, o :: l => Kl P ops L a0 w0 Q k o ∧ JI P ops L a0 w0 Q (k + 1) l
theorem JI.at_ {P : Program} {ops : Array Oper} {L : List SP2} {a0 : Act} {w0 : World} {Q : Exit → Act → World → Prop} : ∀ (l : List Oper) (k : Nat), JI P ops L a0 w0 Q k l → ∀ i o, l[i]? = some o → Kl P ops L a0 w0 Q (k + i) o
 | [], _, _, i, o, h => by simp at h
 | o' :: l, k, h, 0, o, ho => by simp at ho; subst ho; exact h.1
 | o' :: l, k, h, i + 1, o, ho => by
  have := JI.at_ l (k + 1) h.2 i o (by simpa using ho);rwa [show k + (i + 1) = k + 1 + i from by omega]
section
variable {P : Program} {l : List Oper} {n d id : Nat} {L : List SP2} {a0 : Act} {w0 : World} {Q : Exit → Act → World → Prop}
theorem Jd (hB : Y6 l.toArray n d = true) : n < l.length ∧ Ky l.toArray n = true := by
 simp only [Y6, Bool.and_eq_true, decide_eq_true_eq] at hB;exact ⟨by simpa using hB.1.1.1.1, hB.1.1.1.2⟩
theorem Y9 (hB : Y6 l.toArray n d = true) : (∀ o ∈ l.take n, ∃ d, o.dst = some d) ∧ ((l.take n).Pairwise fun x y => x.dst ≠ y.dst) ∧ ∀ j (hj : j < n) (hj' : j < (l.take n).length), Q9 l.toArray j = ((l.take n)[j].dst).getD 0 ∧ (l.take n)[j].dst = some (Q9 l.toArray j) := by
 obtain ⟨hn, hp⟩ := Jd hB
 have hat : ∀ j (hj : j < n) (hj' : j < (l.take n).length), Q9 l.toArray j = ((l.take n)[j].dst).getD 0 ∧ (l.take n)[j].dst = some (Q9 l.toArray j) := by
  intro j hj hj';obtain ⟨-, ⟨k, hk⟩, -⟩ := Zd hp hj (show l.toArray[j]? = some (l[j]'(by omega)) by simp);have e := Zs (ops := l.toArray) (show l.toArray[j]? = some (l[j]'(by omega)) by simp) hk;rw [List.getElem_take, e, hk];exact ⟨rfl, rfl⟩
 refine ⟨fun o ho => ?_, ?_, hat⟩
 ·obtain ⟨j, hj, rfl⟩ := List.mem_iff_getElem.1 ho;exact ⟨_, (hat j (by rw [List.length_take] at hj; omega) hj).2⟩
 ·rw [List.pairwise_iff_getElem];intro i j hi hj hij e;have hi' : i < n := by rw [List.length_take] at hi; omega
  have hj' : j < n := by rw [List.length_take] at hj; omega
  rw [(hat i hi' hi).2, (hat j hj' hj).2] at e;injection e with e;exact (Zd hp hj' (show l.toArray[j]? = some (l[j]'(by omega)) by simp)).2.2 i hi' (by omega) e
theorem YM (hm : P.follows .mixedOrders = true) {φ : Nat → (Nat → Value) → World → Prop} (hB : Y6 l.toArray n d = true) (hsz : (l.all fun o => (o.dst.map fun d => decide (d < a0.tmps.size)).getD true) = true) (hstab : ∀ i v w w', φ i v w → Qa (fun _ => True) w w' → φ i v w') (hdep : ∀ i u v w, φ i u w → u i = v i → (∀ j, Xl l.toArray i j = true → u j = v j) → φ i v w)
  (hstep : ∀ i o, i < n → l.toArray[i]? = some o → Uv P l.toArray φ a0 w0 Q i o) (hend : Vn P l n d φ a0 w0 Q) : (Code.region id l.toArray true).wp P Q a0 w0 := by
 obtain ⟨hn, hp⟩ := Jd hB;refine wp_region_any hm ?_
 have hcount : ((List.range n).filter fun i => !(Array.replicate l.toArray.size false).getD i true).length = n := by
  have : ((List.range n).filter fun i => !(Array.replicate l.toArray.size false).getD i true) = List.range n := by
   rw [List.filter_eq_self];intro i hi;have := List.mem_range.1 hi;have : i < l.length := by omega
   simp [Array.getD_eq_getD_getElem?, this]
  rw [this, List.length_range]
 have := VZ (w0 := w0) (φ := φ) hB hstab hdep (fun i o k ho hk => ?_) hstep hend n (Array.replicate l.toArray.size false) a0 { w0 with drawn := w0.drawn + 1 } (by simp) hcount ?_
 ·rwa [show n + (l.toArray.size - n) = l.toArray.size by simp; omega] at this
 ·have hmem : o ∈ l := by
   have : o ∈ l.toArray.toList := by rw [Array.mem_toList_iff]; exact Array.mem_of_getElem? ho
   simpa using this
  have := List.all_eq_true.1 hsz o hmem;rw [hk] at this;simpa using this
 ·refine ⟨rfl, rfl, SR.drew, fun _ _ => rfl, fun j hj h => ?_, fun j o e ho h => ?_, fun t h1 h2 => ?_⟩
  ·have : j < l.length := by omega
   simp [Array.getD_eq_getD_getElem?, this] at h
  ·have hj := (Array.getElem?_eq_some_iff.1 ho).1;have hj : j < l.length := by simpa using hj
   simp [Array.getD_eq_getD_getElem?, hj] at h
  ·have h2 : t < l.length := by simpa using h2
   simp [Array.getD_eq_getD_getElem?, h2]
theorem Xo (n : Nat) (hm : P.follows .mixedOrders = true) (hB : Y6 l.toArray n l.length = true) (hL : L.length = n) (hlk : KJ l.toArray L = true)
  (hsz : (l.all fun o => (o.dst.map fun d => decide (d < a0.tmps.size)).getD true) = true) (hstep : JI P l.toArray L a0 w0 Q 0 (l.take n))
  (hA : ∀ vs w, vs.length = n → (∀ j, j < n → (Ja L j).q (vs.getD j undef) (fun k => vs.getD k undef) w) → Qa (fun _ => True) w0 w → wpList P l.toArray Q (l.drop n) (Qk a0 (l.take n) vs) w) : (Code.region id l.toArray true).wp P Q a0 w0 := by
 obtain ⟨hn, hp⟩ := Jd hB;obtain ⟨f1, f2, f3⟩ := Y9 hB;have hln : (l.take n).length = n := by rw [List.length_take]; omega
 refine YM (φ := Y2 L) hm hB hsz (Wp L) (YO hlk) (fun i o hi ho => ?_) ⟨fun a w h1 h2 h3 h4 h5 => ?_, fun od on h => by simp at h⟩
 ·have := JI.at_ (l.take n) 0 hstep i o (by rw [List.getElem?_take, if_pos hi]; simpa using ho);rw [Nat.zero_add] at this;exact this.two hlk ho
 ·have hval : ∀ j, j < n → ((l.take n).map fun o => a.tmps.getD (o.dst.getD 0) undef).getD j undef = XX l.toArray a j := fun j hj => by
   unfold XX;rw [(f3 j hj (by omega)).1];have hj2 : j < l.length := by omega
   simp [List.getD_eq_getElem?_getD, hj, hj2]
  rw [Yo (a := a) (a0 := a0) (lj := l.take n) h2 h3 f1 f2 fun k hk => h4 k fun j hj e => ?_]
  ·refine hA _ w (by rw [List.length_map, hln]) (fun j hj => ?_) h1;have h := YO hlk j _ (fun k => ((l.take n).map fun o => a.tmps.getD (o.dst.getD 0) undef).getD k undef) w (h5 j hj) (hval j hj).symm fun k hk => (hval k ?_).symm
   ·exact h
   ·obtain ⟨oj, hoj⟩ : ∃ oj, l.toArray[j]? = some oj := by
     cases e : l.toArray[j]? with
     | none => simp [Xl, e] at hk
     | some oj => exact ⟨oj, rfl⟩
    simp only [Xl, hoj, Option.map_some, Option.getD_some, XR, List.any_eq_true, Bool.and_eq_true, beq_iff_eq, Array.mem_toList_iff] at hk;obtain ⟨e, he, h2, h3⟩ := hk;have := (Zd hp hj hoj).1 e he h3;omega
  ·refine hk ((l.take n)[j]'(by omega)) (List.getElem_mem _) ?_;rw [(f3 j hj (by omega)).2, e]
theorem QB {od on : Oper} (n d : Nat) (hd : d < n) (hm : P.follows .mixedOrders = true) (hB : Y6 l.toArray n d = true) (hL : L.length = n) (hlk : KJ l.toArray L = true) (hone : ((L.eraseIdx d).all fun s => s.k.isNone) = true) (hod : l[d]? = some od) (hon : l[n]? = some on)
  (hsz : (l.all fun o => (o.dst.map fun d => decide (d < a0.tmps.size)).getD true) = true) (hstep : JI P l.toArray L a0 w0 Q 0 (l.take n))
  (hA : ∀ vs w, vs.length = n → (∀ j, j < n → (Ja L j).q (vs.getD j undef) (fun k => vs.getD k undef) w) → Qa (fun _ => True) w0 w → wpList P l.toArray Q (l.drop n) (Qk a0 (l.take n) vs) w)
  (hD : ∀ vs w, vs.length = n - 1 → (∀ j, j < n - 1 → (Ja (L.eraseIdx d) j).p (vs.getD j undef) undef w) → Qa (fun _ => True) w0 w → wpList P l.toArray Q (on :: od :: l.drop (n + 1)) (Qk a0 ((l.take n).eraseIdx d) vs) w) : (Code.region id l.toArray true).wp P Q a0 w0 := by
 obtain ⟨hn, hp⟩ := Jd hB;obtain ⟨f1, f2, f3⟩ := Y9 hB;have hln : (l.take n).length = n := by rw [List.length_take]; omega
 have hle : ((l.take n).eraseIdx d).length = n - 1 := by rw [List.length_eraseIdx, if_pos (by omega), hln]
 have hkn : ∀ j, j ≠ d → (Ja L j).k = none := fun j hjd => by
  rcases Nat.lt_or_ge j L.length with hj | hj
  ·have := List.all_eq_true.1 hone L[j] (by rw [List.mem_eraseIdx_iff_getElem]; exact ⟨j, hj, hjd, rfl⟩);have e : Ja L j = L[j] := by simp [Ja, hj]
   rw [e]; simpa using this
  ·have e : Ja L j = SP2.any := by simp [Ja, hj]
   rw [e]; rfl
 have hph : ∀ j u w, j ≠ d → Y2 L j u w → (Ja L j).p (u j) undef w := fun j u w hjd h => by
  unfold Y2 SP2.q at h;rw [hkn j hjd] at h;exact h
 refine YM (φ := Y2 L) hm hB hsz (Wp L) (YO hlk) (fun i o hi ho => ?_) ⟨fun a w h1 h2 h3 h4 h5 => ?_, fun od' on' h h' a w h1 h2 h3 h4 h5 => ?_⟩
 ·have := JI.at_ (l.take n) 0 hstep i o (by rw [List.getElem?_take, if_pos hi]; simpa using ho);rw [Nat.zero_add] at this;exact this.two hlk ho
 ·have hval : ∀ j, j < n → ((l.take n).map fun o => a.tmps.getD (o.dst.getD 0) undef).getD j undef = XX l.toArray a j := fun j hj => by
   unfold XX;rw [(f3 j hj (by omega)).1];have hj2 : j < l.length := by omega
   simp [List.getD_eq_getElem?_getD, hj, hj2]
  rw [Yo (a := a) (a0 := a0) (lj := l.take n) h2 h3 f1 f2 fun k hk => h4 k fun j hj e => ?_]
  ·refine hA _ w (by rw [List.length_map, hln]) (fun j hj => ?_) h1;have h := YO hlk j _ (fun k => ((l.take n).map fun o => a.tmps.getD (o.dst.getD 0) undef).getD k undef) w (h5 j hj) (hval j hj).symm fun k hk => (hval k ?_).symm
   ·exact h
   ·obtain ⟨oj, hoj⟩ : ∃ oj, l.toArray[j]? = some oj := by
     cases e : l.toArray[j]? with
     | none => simp [Xl, e] at hk
     | some oj => exact ⟨oj, rfl⟩
    simp only [Xl, hoj, Option.map_some, Option.getD_some, XR, List.any_eq_true, Bool.and_eq_true, beq_iff_eq, Array.mem_toList_iff] at hk;obtain ⟨e, he, h2, h3⟩ := hk;have := (Zd hp hj hoj).1 e he h3;omega
  ·refine hk ((l.take n)[j]'(by omega)) (List.getElem_mem _) ?_;rw [(f3 j hj (by omega)).2, e]
 ·obtain rfl : od' = od := by rw [hod] at h; exact (Option.some.inj h).symm
  obtain rfl : on' = on := by rw [hon] at h'; exact (Option.some.inj h').symm
  rw [Yo (a := a) (a0 := a0) (lj := (l.take n).eraseIdx d) h2 h3 (fun o ho => f1 o (List.mem_of_mem_eraseIdx ho)) (f2.sublist (List.eraseIdx_sublist _ _)) fun k hk => h4 k fun j hj hjd e => ?_]
  ·refine hD _ w (by rw [List.length_map, hle]) (fun j hj => ?_) h1
   have hsp : ∀ i, i < n → i ≠ d → (Ja L i).p (a.tmps.getD ((((l.take n)[i]?).bind (·.dst)).getD 0) undef) undef w := fun i hi hid => by
    have := hph i _ w hid (h5 i hi hid);unfold XX at this;rw [(f3 i hi (by omega)).1] at this;rw [List.getElem?_eq_getElem (by omega)];exact this
   have hgd : (((l.take n).eraseIdx d).map fun o => a.tmps.getD (o.dst.getD 0) undef).getD j undef = a.tmps.getD ((((l.take n).eraseIdx d)[j]?.bind (·.dst)).getD 0) undef := by
    have : j < ((l.take n).eraseIdx d).length := by omega
    rw [List.getD_eq_getElem?_getD, List.getElem?_map, List.getElem?_eq_getElem this];rfl
   rw [hgd, List.getElem?_eraseIdx]
   have hLe : Ja (L.eraseIdx d) j = Ja L (if j < d then j else j + 1) := by
    unfold Ja;rw [List.getD_eq_getElem?_getD, List.getD_eq_getElem?_getD, List.getElem?_eraseIdx];split <;> rfl
   rw [hLe];split
   ·exact hsp j (by omega) (by omega)
   ·exact hsp (j + 1) (by omega) (by omega)
  ·refine hk ((l.take n)[j]'(by omega)) ?_ ?_
   ·rw [List.mem_eraseIdx_iff_getElem];exact ⟨j, by omega, hjd, rfl⟩
   ·rw [(f3 j hj (by omega)).2, e]
end
end Go.Proofs.Ytoldelocfmpccaa
namespace Go.Proofs.Ytoldelocfmpccaa
open Go.RowKit
structure Out where
 by_ : QZ
 at_ : St
 yes : Bool
deriving DecidableEq
def Out.zero : Out := ⟨⟨0, 0, 0, 0⟩, ⟨0, 0⟩, false⟩
def Qr (o : Out) : List Value := [.int .i64 o.by_.node, .int .i64 o.by_.life, .int .i64 o.by_.seq, .int .i64 o.by_.attempt, .int .i64 o.at_.wall, .int .i64 o.at_.tie, .bool o.yes]
abbrev Xe (o : Out) : Value := .agg #[.int .i64 o.by_.node, .int .i64 o.by_.life, .int .i64 o.by_.seq, .int .i64 o.by_.attempt, .int .i64 o.at_.wall, .int .i64 o.at_.tie, .bool o.yes]
theorem Xq (o : Out) : (Qr o).length = 7 := rfl
theorem ZE (o : Out) : ∀ u ∈ Qr o, u.oneCell' = true := by
 intro u hu;simp only [Qr, List.mem_cons, List.not_mem_nil, or_false] at hu;rcases hu with rfl | rfl | rfl | rfl | rfl | rfl | rfl <;> rfl
theorem KY : SlT Try.prog 75 93 7 56 (.agg #[.int .i64 0, .int .i64 0, .int .i64 0, .int .i64 0, .int .i64 0, .int .i64 0, .bool false]) := ⟨by kernel_rfl, by kernel_rfl, rfl, by omega⟩
abbrev Q5 (w : World) (S : Nat → Prop) (v : Value) (l : List Out) : Prop := Qw Qr 7 w S v l
abbrev Jo (w : World) (B : Nat) (v : Value) (l : List Out) : Prop := Qg Qr 7 93 w B v l
theorem Q5.form {w : World} {S : Nat → Prop} {v : Value} {l : List Out} (h : Q5 w S v l) : ∃ A c, v = .slice A l.length c ∧ l.length ≤ c ∧ c ≤ maxLen := by
 obtain ⟨A, c, h1, h2, h3, _⟩ := h;exact ⟨A, c, h1, h2, h3⟩
theorem Q5.cells {w : World} {S : Nat → Prop} {A : Option Addr} {n c : Nat} {l : List Out} (h : Q5 w S (.slice A n c) l) {i : Nat} (hi : i < l.length) : ∃ ad, A = some ad ∧ S ad.block ∧
  w.cell? (ad.add (i * 7)) = some (.int .i64 l[i].by_.node) ∧ w.cell? ⟨(ad.add (i * 7)).block, (ad.add (i * 7)).off + 1, none⟩ = some (.int .i64 l[i].by_.life) ∧ w.cell? ⟨(ad.add (i * 7)).block, (ad.add (i * 7)).off + 2, none⟩ = some (.int .i64 l[i].by_.seq) ∧ w.cell? ⟨(ad.add (i * 7)).block, (ad.add (i * 7)).off + 3, none⟩ = some (.int .i64 l[i].by_.attempt) ∧
  w.cell? ⟨(ad.add (i * 7)).block, (ad.add (i * 7)).off + 4, none⟩ = some (.int .i64 l[i].at_.wall) ∧ w.cell? ⟨(ad.add (i * 7)).block, (ad.add (i * 7)).off + 5, none⟩ = some (.int .i64 l[i].at_.tie) ∧ w.cell? ⟨(ad.add (i * 7)).block, (ad.add (i * 7)).off + 6, none⟩ = some (.bool l[i].yes) := by
 obtain ⟨ad, c, h1, h2, h3, h4, h5⟩ := Qw.at_ h Xq hi;injection h1 with h1 _ _;exact ⟨ad, h1, h4, by have := h5 0 (by omega); rwa [add_zero] at this, h5 1 (by omega), h5 2 (by omega), h5 3 (by omega), h5 4 (by omega), h5 5 (by omega), h5 6 (by omega)⟩
def XV (l : List Out) (b : QZ) : Out × Bool := match l.find? fun o => o.by_ == b with | some o => (o, true) | none => (Out.zero, false)
theorem Uq {l : List Out} {b : QZ} (h : ∀ j (h : j < l.length), (l[j].by_ == b) = false) : XV l b = (Out.zero, false) := by
 unfold XV
 rw [List.find?_eq_none.2 fun o ho => by
  obtain ⟨j, hj, rfl⟩ := List.mem_iff_getElem.1 ho
  rw [h j hj]; simp]
theorem V7 {l : List Out} {b : QZ} {k : Nat} (hk : k < l.length) (h : ∀ j (h : j < l.length), j < k → (l[j].by_ == b) = false) (h2 : (l[k].by_ == b) = true) : XV l b = (l[k], true) := by
 unfold XV
 have : l.find? (fun o => o.by_ == b) = some l[k] := by
  rw [List.find?_eq_some_iff_getElem];exact ⟨h2, k, hk, rfl, fun j hj => by simp [h j (by omega) hj]⟩
 rw [this]
def Qbx : Prop := ∀ (a b : QZ) (w : World), (binOp .eql 26 (QH a) (QH b)).run Try.prog w = .ok (.bool (a == b)) w
theorem Uy : Qbx := fun a b w => by
 have e : (a == b) = (a.node == b.node && (a.life == b.life && (a.seq == b.seq && a.attempt == b.attempt))) := by
  rw [Bool.eq_iff_iff]; cases a; cases b; simp
 rw [e];go_simp;cases h1 : a.node == b.node <;> cases h2 : a.life == b.life <;> cases h3 : a.seq == b.seq <;> cases h4 : a.attempt == b.attempt <;> simp_all
set_option maxHeartbeats 1000000 in
theorem WL (o : Out) (b : QZ) (p : Nat) (w : World) (hp : Row w p 26 (XM b)) :
  Calls Try.prog 86 #[Xe o, .pointer (some ⟨p, 0, none⟩)] w fun e w' => e = .returned (.bool (o.by_ == b)) ∧ Qa (fun _ => True) w w' := by
 have hp1 := hp.keep ((Qa.refl (fun _ => True) w).alloc (.cells #[.int .i64 o.by_.node, .int .i64 o.by_.life, .int .i64 o.by_.seq, .int .i64 o.by_.attempt, .int .i64 o.at_.wall, .int .i64 o.at_.tie, .bool o.yes] 93)) tv;obtain ⟨p0, p1, p2, p3⟩ := CN4 hp1;have qE := Uy o.by_ b;clear hp hp1;go_enter Try.func86, Try.ntmps86;go_wp2;go_ret;exact ⟨rfl, SR.alloc _⟩
def Qcb (l : List Out) (b : QZ) (i : Int) : Prop := (i = -1 ∧ XV l b = (Out.zero, false)) ∨ ∃ k, ∃ h : k < l.length, i = (k : Int) ∧ XV l b = (l[k], true)
set_option maxHeartbeats 1000000 in
theorem VE (v : Value) (l : List Out) (b : QZ) (p : Nat) (S : Nat → Prop) (w : World) (hv : Q5 w S v l) (hp : Row w p 26 (XM b)) :
  Calls Try.prog 85 #[v, .func (.func 86) #[] #[.pointer (some ⟨p, 0, none⟩)]] w
   fun e w' => ∃ i, e = .returned (.int .i64 i) ∧ Qcb l b i ∧ Qa (fun _ => True) w w' := by
 obtain ⟨A, cp, rfl, hc, hm⟩ := hv.form;have Hv := LH hv;have Hp := LH hp;unfold maxLen at hm;clear hv hp;go_enter Try.func85, Try.ntmps85;go_wp2;go_loopw [5, 8] (fun _ i wr => ∃ k : Nat, i = .int .i64 k ∧ k ≤ l.length ∧ (∀ j (h : j < l.length), j < k → (l[j].by_ == b) = false) ∧ Qa (fun _ => True) w wr) (fun _ i _ => l.length - (intOf i).toNat)
 case atStart => exact ⟨0, rfl, Nat.zero_le _, fun j _ h => absurd h (Nat.not_lt_zero _), Qa.refl _ _⟩
 case round =>
  obtain ⟨k, rfl, hk, hno, hS⟩ := hrel;have HS := LH hS;have Hno := LH hno;clear hno;by_cases hlt : k < l.length
  ·obtain ⟨ad, rfl, -, c0, c1, c2, c3, c4, c5, c6⟩ := Q5.cells (Qw.keepAll Hv.out hS) hlt;have x1 : (0 : Int) ≤ (k : Int) := by omega
   have x2 : (k : Int) < (l.length : Int) := by omega
   have g := WL l[k] b p wr (Hp.out.keep hS tv);have hat := @V7 l b k hlt Hno.out;have Hat := LH hat
   have hstep : (l[k].by_ == b) = false → ∀ j (h : j < l.length), j < k + 1 → (l[j].by_ == b) = false := by
    intro h0 j h hj;by_cases e : j = k
    ·subst e; exact h0
    ·exact Hno.out j h (by omega)
   have Hstep := LH hstep;clear hat hS hstep;cases hb : l[k].by_ == b
   ·rw [hb] at g;have Hb := LH hb;clear hb;go_wp2_with (go_at_call 86; refine g.mono ?_; rintro e w3 ⟨rfl, hS3⟩);go_roundw
    case rel => exact ⟨k + 1, by go_num, by omega, Hstep.out Hb.out, HS.out.trans hS3⟩
    case measure => simp [intOf]; omega
   ·rw [hb] at g;have Hb := LH hb;clear hb;go_wp2_with (go_at_call 86; refine g.mono ?_; rintro e w3 ⟨rfl, hS3⟩);go_ret;exact ⟨_, rfl, .inr ⟨k, hlt, rfl, Hat.out Hb.out⟩, HS.out.trans hS3⟩
  ·have hall := LH (Uq (b := b) (l := l) fun j h => Hno.out j h (by omega));clear hS;go_wp2;go_ret;exact ⟨_, rfl, .inl ⟨rfl, hall.out⟩, HS.out⟩
theorem YN {W : World} {k : Nat} {o : Out} {b : Bool} (R : Row W k 93 (Qr o)) {tmps : Array Value}
  (h2 : tmps.getD 4 undef = .pointer (some ⟨k, 0, none⟩)) (h3 : tmps.getD 5 undef = .bool b) :
  (results Try.f49 tmps).run Try.prog W = .ok (.tuple #[Xe o, .bool b]) W := by
 obtain ⟨d0, d1, d2, d3, d4, d5, d6⟩ := CN7 R;simp at h2 h3;simp [results, Try.results49, h2, h3, go_sem, d0, d1, d2, d3, d4, d5, d6]
theorem Qa.sets' {S : Nat → Prop} {g : Nat} {w : World} (hg : w.heap.size ≤ g) : ∀ (vs : List Value) {w' : World} (k : Nat), Qa S w w' → Qa S w (Q8 w' g k vs)
 | [], _, _, h => h
 | v :: vs, _, k, h => Qa.sets' hg vs (k + 1) (h.setCell (p := ⟨g, k, none⟩) (fun hp => by have hp : g < w.heap.size := hp; omega) v)
def Qam (r : Out × Bool) (w : World) (e : Ending) (w' : World) : Prop := e = .returned (.tuple #[Xe r.1, .bool r.2]) ∧ Qa (fun _ => True) w w'
set_option maxHeartbeats 2000000 in
theorem Kx (v : Value) (l : List Out) (b : QZ) (S : Nat → Prop) (w : World) (hv : Q5 w S v l) :
  Calls Try.prog 49 #[v, QH b] w (Qam (XV l b) w) := by
 have hmf : ∀ (fn : Fn) (first cap : Array Value) (w : World), (Instr.makeFunc fn first cap).run Try.prog w = .ok (.func fn first cap) w := fun _ _ _ _ => rfl
 have g := fun W h1 h2 => VE v l b w.heap.size S W h1 h2
 obtain ⟨A, cp, rfl, hc, hm⟩ := hv.form;unfold maxLen at hm;have Hv := LH hv;have r0 := (Row.new w 26 (XM b)).keep ((ST).alloc (.cells (Qr Out.zero).toArray 93)) tv;have r1 := Row.new (w.alloc (.cells (XM b).toArray 26)) 93 (Qr Out.zero);have hS0 := ((Qa.refl (fun _ => True) w).alloc (.cells (XM b).toArray 26)).alloc (.cells (Qr Out.zero).toArray 93);rw [World.size_alloc] at r1;clear hv;go_enter Try.func49, Try.ntmps49;go_wp2_with (go_at_call 85; refine Qf ?_);unfold Hid;simp only [XM, Qr, Out.zero] at r0 r1 hS0;revert r0 r1 hS0;generalize (w.alloc _).alloc _ = w1;intro r0 r1 hS0;refine (g w1 (Hv.out.keepAll hS0) r0).mono ?_;rintro e w3 ⟨i, rfl, hi, hS3⟩;have HS0 := LH (hS0.trans hS3);have r3 := r1.keep hS3 tv;have R3 := LH r3;have z3 := r3.lt;obtain ⟨d0, d1, d2, d3, d4, d5, d6⟩ := CN7 r3;obtain ⟨f0, f1, f2, f3, f4, f5, f6⟩ := FN7 r3;have Hv3 := LH (Hv.out.keepAll HS0.out);clear hS0 hS3 r0 r1 r3 g;rcases hi with ⟨rfl, hf⟩ | ⟨k, hk, rfl, hf⟩
 ·have Hf := LH hf;clear hf;go_wp2;rw [Hf.out];exact bodyPost_ret (YN (o := Out.zero) (show Row _ _ _ (Qr Out.zero) from R3.out.sets (Qr Out.zero) 0) rfl rfl) rfl ⟨rfl, Qa.sets' (by omega) (Qr Out.zero) 0 HS0.out⟩
 ·obtain ⟨ad, rfl, -, c0, c1, c2, c3, c4, c5, c6⟩ := Q5.cells Hv3.out hk;have x1 : (0 : Int) ≤ (k : Int) := by omega
  have x2 : (k : Int) < (l.length : Int) := by omega
  have Hf := LH hf;clear hf;generalize l[k] = o at *;go_wp2;rw [Hf.out];exact bodyPost_ret (YN (o := o) (show Row _ _ _ (Qr o) from R3.out.sets (Qr o) 0) rfl rfl) rfl ⟨rfl, Qa.sets' (by omega) (Qr o) 0 HS0.out⟩
end Go.Proofs.Ytoldelocfmpccaa
