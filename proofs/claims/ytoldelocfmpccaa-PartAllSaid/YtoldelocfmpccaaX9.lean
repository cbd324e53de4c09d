/-
  Words, plain models, laws and walks that the claims of this layer share (joined by shake.py). No condition.
-/
import Derived.Test.YtoldelocfmpccaaX8
set_option linter.unusedSimpArgs false
set_option linter.unusedVariables false
namespace Go.Proofs.Ytoldelocfmpccaa
open Go.RowKit
set_option maxRecDepth 100000 in
set_option maxHeartbeats 8000000 in
theorem VT (v : Value) (cs : List Cel) (S : Nat → Prop) (w : World) (hv : QU w S v cs) (hn : cs.length ≤ 100000) (hn2 : ∀ c ∈ cs, c.vers.length ≤ 1000000) :
  Calls Try.prog 37 #[v] w (JE cs w) := by
 obtain ⟨A, cp, rfl, hc, hm⟩ := hv.form;have Hv := LH hv;have Hn2 := LH hn2;unfold maxLen at hm;clear hv hn2;go_enter Try.func37, Try.ntmps37;go_wp2;go_loopw [3, 4, 5, 6] (fun i _ _ _ wr => ∃ k : Nat, i = .int .i64 k ∧ k ≤ cs.length ∧ Zb (cs.take k) ∧ Qa (fun _ => True) w wr) (fun i _ _ _ _ => cs.length - (intOf i).toNat)
 case atStart => exact ⟨0, rfl, Nat.zero_le _, YD, Qa.refl _ _⟩
 case round =>
  obtain ⟨k, rfl, hk, hG, hS⟩ := hrel;obtain ⟨wo, rfl⟩ : ∃ wo : World, wo = wr := ⟨_, rfl⟩;have HS := LH hS;have HG := LH hG;clear hG;by_cases hlt : k < cs.length
  ·obtain ⟨ad, u, rfl, -, hvr, c0, c1, c2, c3, c4, c5, c6, c7, c8, c9, c10, c11⟩ := QU.cells12 (Hv.out.keepAll hS) hlt;obtain ⟨Au, cu, rfl, hq1, hq2⟩ := hvr.form;unfold maxLen at hq2;have x1 : (0 : Int) ≤ (k : Int) := by omega
   have x2 : (k : Int) < (cs.length : Int) := by omega
   have hab := World.block_lt_of_cell? wo _ c0;have hcl := Hn2.out cs[k] (List.getElem_mem hlt);clear hS;have hng := fun h => Yh hlt rfl h
   have hnx := fun h1 h => KF hlt HG.out h1 h
   have hkw : k = 0 ∨ ∃ i pk, i + 1 = k ∧ (ltB pk cs[k].key = false → ¬ Zb cs) ∧ (ltB pk cs[k].key = true → Y3 cs k cs[k].key) ∧ wo.cell? (ad.add (i * 12)) = some (.string (str pk)) := by
    rcases Nat.eq_zero_or_pos k with h | h
    ·exact .inl h
    ·obtain ⟨i, rfl⟩ : ∃ i, k = i + 1 := ⟨k - 1, by omega⟩;obtain ⟨adp, up, ep, -, -, cp0, -⟩ := QU.cells12 (Hv.out.keepAll HS.out) (i := i) (by omega);injection ep with ep;subst ep;refine .inr ⟨i, _, rfl, fun h => Yx (cs := cs) (i := i) hlt h, fun h j pc hj hpc => ?_, cp0⟩;have e : j = i := (by omega);subst e;rw [List.getElem?_eq_getElem (by omega)] at hpc;injection hpc with hpc;rw [← hpc];exact h
   obtain ⟨c, hck⟩ : ∃ c, c = cs[k] := ⟨_, rfl⟩;rw [← hck] at c0 c1 c2 c3 c4 c5 c6 c7 c8 c9 c10 c11 hvr hcl hng hnx hkw;have Hvr := LH hvr;have Hng := LH hng;have Hnx := LH hnx;have Hkw := LH hkw;clear hvr hck hng hnx hkw;go_wp2;have r1 := Row.new wo 64 [.string (str c.key), .slice Au c.vers.length cu, .bool c.locked, .int .i64 c.lock.by_.node, .int .i64 c.lock.by_.life, .int .i64 c.lock.by_.seq, .int .i64 c.lock.by_.attempt, .int .i64 c.lock.home, .int .i64 c.lock.at_.wall, .int .i64 c.lock.at_.tie, .bool c.lock.drop, .string (str c.lock.data)];have hS7 := (Qa.refl (fun _ => True) wo).alloc (.cells ([.string (str c.key), .slice Au c.vers.length cu, .bool c.locked, .int .i64 c.lock.by_.node, .int .i64 c.lock.by_.life, .int .i64 c.lock.by_.seq, .int .i64 c.lock.by_.attempt, .int .i64 c.lock.home, .int .i64 c.lock.at_.wall, .int .i64 c.lock.at_.tie, .bool c.lock.drop, .string (str c.lock.data)] : List Value).toArray 64);clear c0 c1 c2 c3 c4 c5 c6 c7 c8 c9 c10 c11;revert r1 hS7;generalize wo.alloc (.cells _ 64) = W7;intro r1 hS7;obtain ⟨a0, a1, a2, a3, a4, a5, a6, a7, a8, a9, a10, a11, -⟩ := QD r1;have HS7 := LH hS7;have Hbox7 := LH r1;clear r1 hS7;go_cut [3, 62] from 7 to 98 (fun i9 c59 wx => i9 = .int .i64 (k : Int) ∧ ∃ b : Bool, c59 = .bool b ∧ (∃ nq, wx = W7.drewN nq) ∧ (b = true → ¬ Zb cs) ∧ (b = false → Y3 cs k c.key ∧ (c.locked = false → c.lock = Lck.zero) ∧ Qv c = true ∧ (c.lock.drop = true → c.lock.data = [])))
   case first =>
    rcases Hkw.out with hk0 | ⟨i, pk, hi, hnk, hk1, cp0⟩
    ·have y3 : decide ((0 : Int) < (k : Int)) = false := by simp; omega
     have y4 : decide (0 < k) = false := by simp; omega
     have HLO := LH (show Y3 cs k c.key by rw [hk0]; exact Vz _ _);clear hk0;cases hl : c.locked
     ·rw [hl] at a2;by_cases hz : c.lock = Lck.zero
      ·rw [hz] at a3 a4 a5 a6 a7 a8 a9 a10 a11;simp only [Lck.zero] at a3 a4 a5 a6 a7 a8 a9 a10 a11;have a11x : W7.cell? ⟨wo.heap.size, 11, none⟩ = some (.string ⟨#[]⟩) := a11;by_cases hv0 : c.vers = []
       ·have ng : ¬ Zi c := fun g => by
         have := g.kept;unfold Qv at this;rw [hl, hv0] at this;simp at this
        have NGH := LH (Hng.out ng);have h1 : ((c.vers.length : Int) == 0) = true := by rw [hv0]; rfl
        have h2 : (c.vers.length : Int) = 0 := by rw [hv0]; rfl
        clear hl hz hv0 a11 ng;go_quiet (fail);rename_i nq;go_wp2;go_meet;exact ⟨rfl, true, rfl, ⟨nq, rfl⟩, fun _ => NGH.out, (fun h => nomatch h)⟩
       ·have h0 : (0 : Int) < (c.vers.length : Int) := by
         have := List.length_pos_iff.2 hv0;omega
        have h1 : ((c.vers.length : Int) == 0) = false := by simp; intro e; rw [e] at h0; simp at h0
        have g2 : Qv c = true := by unfold Qv; rw [hl]; simp [hv0]
        have GF := LH (show (c.locked = false → c.lock = Lck.zero) ∧ Qv c = true ∧ (c.lock.drop = true → c.lock.data = []) from ⟨fun _ => hz, g2, fun h => by rw [hz]; rfl⟩);clear hl hz hv0 a11 g2;go_quiet (fail);rename_i nq;go_wp2;go_meet;exact ⟨rfl, false, rfl, ⟨nq, rfl⟩, (fun h => nomatch h), fun _ => ⟨HLO.out, GF.out.1, GF.out.2.1, GF.out.2.2⟩⟩
      ·have ng : ¬ Zi c := fun g => hz (g.free hl)
       have NGH := LH (Hng.out ng);have qz := J7 hz;have qz : ∀ w, (binOp .neq 30 (Q4 c.lock) (.agg #[.int .i64 0, .int .i64 0, .int .i64 0, .int .i64 0, .int .i64 0, .int .i64 0, .int .i64 0, .bool false, .string ⟨#[]⟩])).run Try.prog w = .ok (.bool true) w := qz;clear hl hz ng;go_quiet (fail);rename_i nq;go_wp2;go_meet;exact ⟨rfl, true, rfl, ⟨nq, rfl⟩, fun _ => NGH.out, (fun h => nomatch h)⟩
     ·rw [hl] at a2;by_cases hv0 : c.vers = []
      ·have h1 : ((c.vers.length : Int) == 0) = true := by rw [hv0]; rfl
       have h2 : (c.vers.length : Int) = 0 := by rw [hv0]; rfl
       clear hv0;have g2 : Qv c = true := by unfold Qv; rw [hl]; rfl
       have g1 : c.locked = false → c.lock = Lck.zero := fun h => by rw [hl] at h; cases h
       cases hd : c.lock.drop
       ·rw [hd] at a10;have GF := LH (show (c.locked = false → c.lock = Lck.zero) ∧ Qv c = true ∧ (c.lock.drop = true → c.lock.data = []) from ⟨g1, g2, fun h => by rw [hd] at h; cases h⟩);clear hl hd g1 g2;go_quiet (fail);rename_i nq;go_wp2;go_meet;exact ⟨rfl, false, rfl, ⟨nq, rfl⟩, (fun h => nomatch h), fun _ => ⟨HLO.out, GF.out.1, GF.out.2.1, GF.out.2.2⟩⟩
       ·rw [hd] at a10;by_cases hdt : c.lock.data = []
        ·rw [hdt] at a11;have a11x : W7.cell? ⟨wo.heap.size, 11, none⟩ = some (.string ⟨#[]⟩) := a11;have GF := LH (show (c.locked = false → c.lock = Lck.zero) ∧ Qv c = true ∧ (c.lock.drop = true → c.lock.data = []) from ⟨g1, g2, fun _ => hdt⟩);clear hl hd hdt a11 g1 g2;go_quiet (fail);rename_i nq;go_wp2;go_meet;exact ⟨rfl, false, rfl, ⟨nq, rfl⟩, (fun h => nomatch h), fun _ => ⟨HLO.out, GF.out.1, GF.out.2.1, GF.out.2.2⟩⟩
        ·have ng : ¬ Zi c := fun g => hdt (g.lock hd)
         have NGH := LH (Hng.out ng);have qd : ¬ (str c.lock.data).toList = [] := by rw [ByteArray.toList_eq]; exact hdt
         have qd2 : ((str c.lock.data).toList == []) = false := by simpa using qd
         clear hl hd hdt ng g1 g2;go_quiet (fail);rename_i nq;go_wp2;go_meet;exact ⟨rfl, true, rfl, ⟨nq, rfl⟩, fun _ => NGH.out, (fun h => nomatch h)⟩
      ·have h0 : (0 : Int) < (c.vers.length : Int) := by
        have := List.length_pos_iff.2 hv0;omega
       have h1 : ((c.vers.length : Int) == 0) = false := by simp; intro e; rw [e] at h0; simp at h0
       clear hv0;have g2 : Qv c = true := by unfold Qv; rw [hl]; rfl
       have g1 : c.locked = false → c.lock = Lck.zero := fun h => by rw [hl] at h; cases h
       cases hd : c.lock.drop
       ·rw [hd] at a10;have GF := LH (show (c.locked = false → c.lock = Lck.zero) ∧ Qv c = true ∧ (c.lock.drop = true → c.lock.data = []) from ⟨g1, g2, fun h => by rw [hd] at h; cases h⟩);clear hl hd g1 g2;go_quiet (fail);rename_i nq;go_wp2;go_meet;exact ⟨rfl, false, rfl, ⟨nq, rfl⟩, (fun h => nomatch h), fun _ => ⟨HLO.out, GF.out.1, GF.out.2.1, GF.out.2.2⟩⟩
       ·rw [hd] at a10;by_cases hdt : c.lock.data = []
        ·rw [hdt] at a11;have a11x : W7.cell? ⟨wo.heap.size, 11, none⟩ = some (.string ⟨#[]⟩) := a11;have GF := LH (show (c.locked = false → c.lock = Lck.zero) ∧ Qv c = true ∧ (c.lock.drop = true → c.lock.data = []) from ⟨g1, g2, fun _ => hdt⟩);clear hl hd hdt a11 g1 g2;go_quiet (fail);rename_i nq;go_wp2;go_meet;exact ⟨rfl, false, rfl, ⟨nq, rfl⟩, (fun h => nomatch h), fun _ => ⟨HLO.out, GF.out.1, GF.out.2.1, GF.out.2.2⟩⟩
        ·have ng : ¬ Zi c := fun g => hdt (g.lock hd)
         have NGH := LH (Hng.out ng);have qd : ¬ (str c.lock.data).toList = [] := by rw [ByteArray.toList_eq]; exact hdt
         have qd2 : ((str c.lock.data).toList == []) = false := by simpa using qd
         clear hl hd hdt ng g1 g2;go_quiet (fail);rename_i nq;go_wp2;go_meet;exact ⟨rfl, true, rfl, ⟨nq, rfl⟩, fun _ => NGH.out, (fun h => nomatch h)⟩
    ·have y1 : (0 : Int) ≤ (i : Int) := by omega
     have y2 : (i : Int) < (cs.length : Int) := by omega
     have y3 : decide ((0 : Int) < (k : Int)) = true := by simp; omega
     have y4 : 0 < k := by omega
     have y5 : decide (0 < k) = true := by simp; omega
     have y6 : IntKind.i64.wrap ((k : Int) - 1) = (i : Int) := by rw [IntKind.wrap_i64]; omega
     have cp0 := HS7.out.cell (p := (ad.add (i * 12))) tv cp0;cases hlo : ltB pk c.key
     ·have NGH := LH (hnk hlo);have q3 := ZK pk c.key;rw [hlo] at q3;clear hlo hnk hk1 hi;go_quiet (fail);rename_i nq;go_wp2;go_meet;exact ⟨rfl, true, rfl, ⟨nq, rfl⟩, fun _ => NGH.out, (fun h => nomatch h)⟩
     ·have HLO := LH (hk1 hlo);have q3 := ZK pk c.key;rw [hlo] at q3;clear hlo hnk hk1 hi;cases hl : c.locked
      ·rw [hl] at a2;by_cases hz : c.lock = Lck.zero
       ·rw [hz] at a3 a4 a5 a6 a7 a8 a9 a10 a11;simp only [Lck.zero] at a3 a4 a5 a6 a7 a8 a9 a10 a11;have a11x : W7.cell? ⟨wo.heap.size, 11, none⟩ = some (.string ⟨#[]⟩) := a11;by_cases hv0 : c.vers = []
        ·have ng : ¬ Zi c := fun g => by
          have := g.kept;unfold Qv at this;rw [hl, hv0] at this;simp at this
         have NGH := LH (Hng.out ng);have h1 : ((c.vers.length : Int) == 0) = true := by rw [hv0]; rfl
         have h2 : (c.vers.length : Int) = 0 := by rw [hv0]; rfl
         clear hl hz hv0 a11 ng;go_quiet (fail);rename_i nq;go_wp2;go_meet;exact ⟨rfl, true, rfl, ⟨nq, rfl⟩, fun _ => NGH.out, (fun h => nomatch h)⟩
        ·have h0 : (0 : Int) < (c.vers.length : Int) := by
          have := List.length_pos_iff.2 hv0;omega
         have h1 : ((c.vers.length : Int) == 0) = false := by simp; intro e; rw [e] at h0; simp at h0
         have g2 : Qv c = true := by unfold Qv; rw [hl]; simp [hv0]
         have GF := LH (show (c.locked = false → c.lock = Lck.zero) ∧ Qv c = true ∧ (c.lock.drop = true → c.lock.data = []) from ⟨fun _ => hz, g2, fun h => by rw [hz]; rfl⟩);clear hl hz hv0 a11 g2;go_quiet (fail);rename_i nq;go_wp2;go_meet;exact ⟨rfl, false, rfl, ⟨nq, rfl⟩, (fun h => nomatch h), fun _ => ⟨HLO.out, GF.out.1, GF.out.2.1, GF.out.2.2⟩⟩
       ·have ng : ¬ Zi c := fun g => hz (g.free hl)
        have NGH := LH (Hng.out ng);have qz := J7 hz;have qz : ∀ w, (binOp .neq 30 (Q4 c.lock) (.agg #[.int .i64 0, .int .i64 0, .int .i64 0, .int .i64 0, .int .i64 0, .int .i64 0, .int .i64 0, .bool false, .string ⟨#[]⟩])).run Try.prog w = .ok (.bool true) w := qz;clear hl hz ng;go_quiet (fail);rename_i nq;go_wp2;go_meet;exact ⟨rfl, true, rfl, ⟨nq, rfl⟩, fun _ => NGH.out, (fun h => nomatch h)⟩
      ·rw [hl] at a2;by_cases hv0 : c.vers = []
       ·have h1 : ((c.vers.length : Int) == 0) = true := by rw [hv0]; rfl
        have h2 : (c.vers.length : Int) = 0 := by rw [hv0]; rfl
        clear hv0;have g2 : Qv c = true := by unfold Qv; rw [hl]; rfl
        have g1 : c.locked = false → c.lock = Lck.zero := fun h => by rw [hl] at h; cases h
        cases hd : c.lock.drop
        ·rw [hd] at a10;have GF := LH (show (c.locked = false → c.lock = Lck.zero) ∧ Qv c = true ∧ (c.lock.drop = true → c.lock.data = []) from ⟨g1, g2, fun h => by rw [hd] at h; cases h⟩);clear hl hd g1 g2;go_quiet (fail);rename_i nq;go_wp2;go_meet;exact ⟨rfl, false, rfl, ⟨nq, rfl⟩, (fun h => nomatch h), fun _ => ⟨HLO.out, GF.out.1, GF.out.2.1, GF.out.2.2⟩⟩
        ·rw [hd] at a10;by_cases hdt : c.lock.data = []
         ·rw [hdt] at a11;have a11x : W7.cell? ⟨wo.heap.size, 11, none⟩ = some (.string ⟨#[]⟩) := a11;have GF := LH (show (c.locked = false → c.lock = Lck.zero) ∧ Qv c = true ∧ (c.lock.drop = true → c.lock.data = []) from ⟨g1, g2, fun _ => hdt⟩);clear hl hd hdt a11 g1 g2;go_quiet (fail);rename_i nq;go_wp2;go_meet;exact ⟨rfl, false, rfl, ⟨nq, rfl⟩, (fun h => nomatch h), fun _ => ⟨HLO.out, GF.out.1, GF.out.2.1, GF.out.2.2⟩⟩
         ·have ng : ¬ Zi c := fun g => hdt (g.lock hd)
          have NGH := LH (Hng.out ng);have qd : ¬ (str c.lock.data).toList = [] := by rw [ByteArray.toList_eq]; exact hdt
          have qd2 : ((str c.lock.data).toList == []) = false := by simpa using qd
          clear hl hd hdt ng g1 g2;go_quiet (fail);rename_i nq;go_wp2;go_meet;exact ⟨rfl, true, rfl, ⟨nq, rfl⟩, fun _ => NGH.out, (fun h => nomatch h)⟩
       ·have h0 : (0 : Int) < (c.vers.length : Int) := by
         have := List.length_pos_iff.2 hv0;omega
        have h1 : ((c.vers.length : Int) == 0) = false := by simp; intro e; rw [e] at h0; simp at h0
        clear hv0;have g2 : Qv c = true := by unfold Qv; rw [hl]; rfl
        have g1 : c.locked = false → c.lock = Lck.zero := fun h => by rw [hl] at h; cases h
        cases hd : c.lock.drop
        ·rw [hd] at a10;have GF := LH (show (c.locked = false → c.lock = Lck.zero) ∧ Qv c = true ∧ (c.lock.drop = true → c.lock.data = []) from ⟨g1, g2, fun h => by rw [hd] at h; cases h⟩);clear hl hd g1 g2;go_quiet (fail);rename_i nq;go_wp2;go_meet;exact ⟨rfl, false, rfl, ⟨nq, rfl⟩, (fun h => nomatch h), fun _ => ⟨HLO.out, GF.out.1, GF.out.2.1, GF.out.2.2⟩⟩
        ·rw [hd] at a10;by_cases hdt : c.lock.data = []
         ·rw [hdt] at a11;have a11x : W7.cell? ⟨wo.heap.size, 11, none⟩ = some (.string ⟨#[]⟩) := a11;have GF := LH (show (c.locked = false → c.lock = Lck.zero) ∧ Qv c = true ∧ (c.lock.drop = true → c.lock.data = []) from ⟨g1, g2, fun _ => hdt⟩);clear hl hd hdt a11 g1 g2;go_quiet (fail);rename_i nq;go_wp2;go_meet;exact ⟨rfl, false, rfl, ⟨nq, rfl⟩, (fun h => nomatch h), fun _ => ⟨HLO.out, GF.out.1, GF.out.2.1, GF.out.2.2⟩⟩
         ·have ng : ¬ Zi c := fun g => hdt (g.lock hd)
          have NGH := LH (Hng.out ng);have qd : ¬ (str c.lock.data).toList = [] := by rw [ByteArray.toList_eq]; exact hdt
          have qd2 : ((str c.lock.data).toList == []) = false := by simpa using qd
          clear hl hd hdt ng g1 g2;go_quiet (fail);rename_i nq;go_wp2;go_meet;exact ⟨rfl, true, rfl, ⟨nq, rfl⟩, fun _ => NGH.out, (fun h => nomatch h)⟩
   case rest =>
    obtain ⟨rfl, cb, rfl, ⟨nq, rfl⟩, hbt, hbf⟩ := hcut;cases cb
    case true =>
     have NGH := LH (hbt rfl);have HS8 := LH (HS7.out.drewN nq);generalize W7.drewN nq = W8 at *;clear hbt hbf a0 a1 a2 a3 a4 a5 a6 a7 a8 a9 a10 a11;go_wp2;go_ret;exact JE.no NGH.out (HS.out.trans HS8.out)
    obtain ⟨hfk, hf1, hf2, hf3⟩ := hbf rfl;clear hbt hbf;have Hnx := LH (Hnx.out hfk);clear hfk;have HF1 := LH hf1;have HF2 := LH hf2;have HF3 := LH hf3;clear hf1 hf2 hf3;have hS8 := HS7.out.drewN nq;have hbox8 := Hbox7.out.keep ((Qa.refl (fun _ => True) W7).drewN nq) tv;generalize W7.drewN nq = W8 at *;have a1 : W8.cell? ⟨wo.heap.size, 1, none⟩ = some (.slice Au c.vers.length cu) := hbox8.cell 1;have HS8 := LH hS8;have Hbox8 := LH hbox8;clear hS8 hbox8 a0 a2 a3 a4 a5 a6 a7 a8 a9 a10 a11;go_wp2;go_loopw [5, 6] (fun i _ wi => ∃ j : Nat, i = .int .i64 j ∧ j ≤ c.vers.length ∧ XU (c.vers.take j) ∧ YC (c.vers.take j) ∧ Qa (fun _ => True) W8 wi) (fun i _ _ => c.vers.length - (intOf i).toNat)
    case atStart => exact ⟨0, rfl, Nat.zero_le _, JZ.1, JZ.2, Qa.refl _ _⟩
    case round =>
     obtain ⟨j, rfl, hj, hso, hcl2, hSi⟩ := hrel;have HSi := LH hSi;have Hso := LH hso;have Hcl := LH hcl2;have a1 : wr.cell? ⟨wo.heap.size, 1, none⟩ = some (.slice Au c.vers.length cu) := (Hbox8.out.keep hSi tv).cell 1;have z7 := (Hbox8.out.keep hSi tv).lt;clear hSi hso hcl2;by_cases hjl : j < c.vers.length
     ·rcases j with _ | i2
      ·obtain ⟨ad2, rfl, -, d0, d1, d2, d3⟩ := Zl.cells (Qw.keepAll Hvr.out (HS8.out.trans HSi.out)) hjl;have hym : c.vers[0] ∈ c.vers := List.getElem_mem hjl;have hvn := fun h1 => J5 hjl Hso.out Hcl.out h1
       have hvn : (c.vers[0].drop = true → c.vers[0].data = []) → True → XU (c.vers.take 1) ∧ YC (c.vers.take 1) := fun h1 _ => hvn h1 (fun i h => by omega)
       have x3 : (0 : Int) ≤ ((0 : Nat) : Int) := by omega
       have x4 : ((0 : Nat) : Int) < (c.vers.length : Int) := by omega
       simp only [Nat.zero_mul, add_zero] at d0 d1 d2 d3;have hab2 := World.block_lt_of_cell? wr _ d0;have Hvn := LH hvn;have HyM := LH hym;clear hvn hym;go_wp2;have rv := Row.new wr 69 (Qz c.vers[0]);have hS9 := (Qa.refl (fun _ => True) wr).alloc (.cells (Qz c.vers[0]).toArray 69);simp only [Qz] at rv hS9;clear d0 d1 d2 d3 hab2;revert rv hS9;generalize wr.alloc (.cells _ 69) = W9;intro rv hS9;have b0 : W9.cell? ⟨wr.heap.size, 0, none⟩ = some (.int .i64 c.vers[0].at_.wall) := rv.cell 0;have b1 : W9.cell? ⟨wr.heap.size, 1, none⟩ = some (.int .i64 c.vers[0].at_.tie) := rv.cell 1;have b2 : W9.cell? ⟨wr.heap.size, 2, none⟩ = some (.bool c.vers[0].drop) := rv.cell 2;have b3 : W9.cell? ⟨wr.heap.size, 3, none⟩ = some (.string (str c.vers[0].data)) := rv.cell 3;have z9 := rv.lt;have a1 := MC a1 hS9 tv;have HS9 := LH hS9;clear rv hS9;generalize c.vers[0] = y at *;cases hdr : y.drop
       ·rw [hdr] at b2;have hVD : y.drop = true → y.data = [] := fun h => by rw [hdr] at h; cases h
        have HVD := LH hVD;clear hVD hdr;go_wp2;refine Qi (vs := [(.pointer (some ⟨wr.heap.size, 2, none⟩)), (.bool false), (.bool false), undef, undef, undef, (.bool false), (.bool false), (.int .i64 0), (.bool false), (.bool false), undef, undef, undef, undef, undef, undef, undef, undef, undef, undef, undef, (.bool false), (.bool false)]) (by kernel_rfl) (by kernel_rfl) rfl rfl ?_ ?_
        ·refine ⟨?_, ?_, ?_, ?_, ?_, ?_, ?_, ?_, ?_, ?_, ?_, ?_, ?_, ?_, ?_, ?_, ?_, ?_, ?_, ?_, ?_, ?_, ?_, ?_, tv⟩
         all_goals intro ac wc hs hd hz hf hw K hK
         ·have e0 := EP 6 wr.heap.size 0 (hf 6 rfl);clear hd hz hf hw;simp only [if_true, RL, e0];go_simp;exact hK _ _ rfl SR
         ·have e0 := EP 75 wr.heap.size 2 (hw 0 rfl);have m0 := MC b2 hs tv;clear hd hz hf hw;simp only [if_true, RL, e0];go_simp;exact hK _ _ rfl SR
         ·have e0 := EV 76 (.bool false) (hw 1 rfl);clear hd hz hf hw;simp only [if_true, RL, e0];go_simp;exact hK _ _ rfl SR
         ·refine SW 2 77 false hz (hw 2 rfl) ?_;exact hK _ _ rfl SR
         ·refine SW 2 77 false hz (hw 2 rfl) ?_;exact hK _ _ rfl SR
         ·refine SW 2 77 false hz (hw 2 rfl) ?_;exact hK _ _ rfl SR
         ·have e0 := EV 77 (.bool false) (hw 2 rfl);have e1 := EV 80 undef (hw 5 rfl);clear hd hz hf hw;simp only [if_true, RL, e0, e1];go_simp;exact hK _ _ rfl SR
         ·have e0 := EV 81 (.bool false) (hw 6 rfl);clear hd hz hf hw;simp only [if_true, RL, e0];go_simp;exact hK _ _ rfl SR
         ·refine RW 7 82 false hz (hw 7 rfl) ?_;have e0 := EV 5 (.int .i64 0) (hf 5 rfl);clear hd hz hf hw;simp only [RL, e0];go_simp;exact hK _ _ rfl SR
         ·refine RW 7 82 false hz (hw 7 rfl) ?_;have e0 := EV 83 (.int .i64 0) (hw 8 rfl);clear hd hz hf hw;simp only [RL, e0];go_simp;exact hK _ _ rfl SR
         ·refine RW 7 82 false hz (hw 7 rfl) ?_;have e0 := EV 84 (.bool false) (hw 9 rfl);clear hd hz hf hw;simp only [RL, e0];go_simp;exact hK _ _ rfl SR
         ·refine SW 10 85 false hz (hw 10 rfl) ?_;exact hK _ _ rfl SR
         ·refine SW 10 85 false hz (hw 10 rfl) ?_;exact hK _ _ rfl SR
         ·refine SW 10 85 false hz (hw 10 rfl) ?_;exact hK _ _ rfl SR
         ·refine SW 10 85 false hz (hw 10 rfl) ?_;exact hK _ _ rfl SR
         ·refine SW 10 85 false hz (hw 10 rfl) ?_;exact hK _ _ rfl SR
         ·refine SW 10 85 false hz (hw 10 rfl) ?_;exact hK _ _ rfl SR
         ·refine SW 10 85 false hz (hw 10 rfl) ?_;exact hK _ _ rfl SR
         ·refine SW 10 85 false hz (hw 10 rfl) ?_;exact hK _ _ rfl SR
         ·refine SW 10 85 false hz (hw 10 rfl) ?_;exact hK _ _ rfl SR
         ·refine SW 10 85 false hz (hw 10 rfl) ?_;exact hK _ _ rfl SR
         ·refine SW 10 85 false hz (hw 10 rfl) ?_;exact hK _ _ rfl SR
         ·refine RW 7 82 false hz (hw 7 rfl) ?_;have e0 := EV 85 (.bool false) (hw 10 rfl);have e1 := EV 96 undef (hw 21 rfl);clear hd hz hf hw;simp only [RL, e0, e1];go_simp;exact hK _ _ rfl SR
         ·have e0 := EV 82 (.bool false) (hw 7 rfl);have e1 := EV 97 (.bool false) (hw 22 rfl);clear hd hz hf hw;simp only [if_true, RL, e0, e1];go_simp;exact hK _ _ rfl SR
        ·intro wR hsR;simp only [Qk, Act.put, LP];go_wp2;go_roundw
         case rel => exact ⟨1, by go_num, by omega, (Hvn.out HVD.out (tv)).1, (Hvn.out HVD.out (tv)).2, (HSi.out.trans HS9.out).trans hsR⟩
         case measure => simp [intOf]; omega
       ·rw [hdr] at b2;by_cases hdt : y.data = []
        ·have hVD : y.drop = true → y.data = [] := fun _ => hdt
         rw [hdt] at b3;have b3 : W9.cell? ⟨wr.heap.size, 3, none⟩ = some (.string ⟨#[]⟩) := b3;have HVD := LH hVD;clear hVD hdr hdt;go_wp2;refine Qi (vs := [(.pointer (some ⟨wr.heap.size, 2, none⟩)), (.bool true), (.bool true), (.pointer (some ⟨wr.heap.size, 3, none⟩)), (.string ⟨#[]⟩), (.bool false), (.bool false), (.bool false), (.int .i64 0), (.bool false), (.bool false), undef, undef, undef, undef, undef, undef, undef, undef, undef, undef, undef, (.bool false), (.bool false)]) (by kernel_rfl) (by kernel_rfl) rfl rfl ?_ ?_
         ·refine ⟨?_, ?_, ?_, ?_, ?_, ?_, ?_, ?_, ?_, ?_, ?_, ?_, ?_, ?_, ?_, ?_, ?_, ?_, ?_, ?_, ?_, ?_, ?_, ?_, tv⟩
          all_goals intro ac wc hs hd hz hf hw K hK
          ·have e0 := EP 6 wr.heap.size 0 (hf 6 rfl);clear hd hz hf hw;simp only [if_true, RL, e0];go_simp;exact hK _ _ rfl SR
          ·have e0 := EP 75 wr.heap.size 2 (hw 0 rfl);have m0 := MC b2 hs tv;clear hd hz hf hw;simp only [if_true, RL, e0];go_simp;exact hK _ _ rfl SR
          ·have e0 := EV 76 (.bool true) (hw 1 rfl);clear hd hz hf hw;simp only [if_true, RL, e0];go_simp;exact hK _ _ rfl SR
          ·refine RW 2 77 true hz (hw 2 rfl) ?_;have e0 := EP 6 wr.heap.size 0 (hf 6 rfl);clear hd hz hf hw;simp only [RL, e0];go_simp;exact hK _ _ rfl SR
          ·refine RW 2 77 true hz (hw 2 rfl) ?_;have e0 := EP 78 wr.heap.size 3 (hw 3 rfl);have m0 := MC b3 hs tv;clear hd hz hf hw;simp only [RL, e0];go_simp;exact hK _ _ rfl SR
          ·refine RW 2 77 true hz (hw 2 rfl) ?_;have e0 := EV 79 (.string ⟨#[]⟩) (hw 4 rfl);clear hd hz hf hw;simp only [RL, e0];go_simp;exact hK _ _ rfl SR
          ·have e0 := EV 77 (.bool true) (hw 2 rfl);have e1 := EV 80 (.bool false) (hw 5 rfl);clear hd hz hf hw;simp only [if_true, RL, e0, e1];go_simp;exact hK _ _ rfl SR
          ·have e0 := EV 81 (.bool false) (hw 6 rfl);clear hd hz hf hw;simp only [if_true, RL, e0];go_simp;exact hK _ _ rfl SR
          ·refine RW 7 82 false hz (hw 7 rfl) ?_;have e0 := EV 5 (.int .i64 0) (hf 5 rfl);clear hd hz hf hw;simp only [RL, e0];go_simp;exact hK _ _ rfl SR
          ·refine RW 7 82 false hz (hw 7 rfl) ?_;have e0 := EV 83 (.int .i64 0) (hw 8 rfl);clear hd hz hf hw;simp only [RL, e0];go_simp;exact hK _ _ rfl SR
          ·refine RW 7 82 false hz (hw 7 rfl) ?_;have e0 := EV 84 (.bool false) (hw 9 rfl);clear hd hz hf hw;simp only [RL, e0];go_simp;exact hK _ _ rfl SR
          ·refine SW 10 85 false hz (hw 10 rfl) ?_;exact hK _ _ rfl SR
          ·refine SW 10 85 false hz (hw 10 rfl) ?_;exact hK _ _ rfl SR
          ·refine SW 10 85 false hz (hw 10 rfl) ?_;exact hK _ _ rfl SR
          ·refine SW 10 85 false hz (hw 10 rfl) ?_;exact hK _ _ rfl SR
          ·refine SW 10 85 false hz (hw 10 rfl) ?_;exact hK _ _ rfl SR
          ·refine SW 10 85 false hz (hw 10 rfl) ?_;exact hK _ _ rfl SR
          ·refine SW 10 85 false hz (hw 10 rfl) ?_;exact hK _ _ rfl SR
          ·refine SW 10 85 false hz (hw 10 rfl) ?_;exact hK _ _ rfl SR
          ·refine SW 10 85 false hz (hw 10 rfl) ?_;exact hK _ _ rfl SR
          ·refine SW 10 85 false hz (hw 10 rfl) ?_;exact hK _ _ rfl SR
          ·refine SW 10 85 false hz (hw 10 rfl) ?_;exact hK _ _ rfl SR
          ·refine RW 7 82 false hz (hw 7 rfl) ?_;have e0 := EV 85 (.bool false) (hw 10 rfl);have e1 := EV 96 undef (hw 21 rfl);clear hd hz hf hw;simp only [RL, e0, e1];go_simp;exact hK _ _ rfl SR
          ·have e0 := EV 82 (.bool false) (hw 7 rfl);have e1 := EV 97 (.bool false) (hw 22 rfl);clear hd hz hf hw;simp only [if_true, RL, e0, e1];go_simp;exact hK _ _ rfl SR
         ·intro wR hsR;simp only [Qk, Act.put, LP];go_wp2;go_roundw
          case rel => exact ⟨1, by go_num, by omega, (Hvn.out HVD.out (tv)).1, (Hvn.out HVD.out (tv)).2, (HSi.out.trans HS9.out).trans hsR⟩
          case measure => simp [intOf]; omega
        ·have hVD : ¬ (y.drop = true → y.data = []) := fun h => hdt (h hdr)
         have qd : ¬ (str y.data).toList = [] := by rw [ByteArray.toList_eq]; exact hdt
         have qd2 : ((str y.data).toList == []) = false := by simpa using qd
         have HVD := LH hVD;clear hVD hdr hdt;go_wp2;refine Qi (vs := [(.pointer (some ⟨wr.heap.size, 2, none⟩)), (.bool true), (.bool true), (.pointer (some ⟨wr.heap.size, 3, none⟩)), (.string (str y.data)), (.bool true), (.bool true), (.bool true), undef, undef, undef, undef, undef, undef, undef, undef, undef, undef, undef, undef, undef, undef, undef, (.bool true)]) (by kernel_rfl) (by kernel_rfl) rfl rfl ?_ ?_
         ·refine ⟨?_, ?_, ?_, ?_, ?_, ?_, ?_, ?_, ?_, ?_, ?_, ?_, ?_, ?_, ?_, ?_, ?_, ?_, ?_, ?_, ?_, ?_, ?_, ?_, tv⟩
          all_goals intro ac wc hs hd hz hf hw K hK
          ·have e0 := EP 6 wr.heap.size 0 (hf 6 rfl);clear hd hz hf hw;simp only [if_true, RL, e0];go_simp;exact hK _ _ rfl SR
          ·have e0 := EP 75 wr.heap.size 2 (hw 0 rfl);have m0 := MC b2 hs tv;clear hd hz hf hw;simp only [if_true, RL, e0];go_simp;exact hK _ _ rfl SR
          ·have e0 := EV 76 (.bool true) (hw 1 rfl);clear hd hz hf hw;simp only [if_true, RL, e0];go_simp;exact hK _ _ rfl SR
          ·refine RW 2 77 true hz (hw 2 rfl) ?_;have e0 := EP 6 wr.heap.size 0 (hf 6 rfl);clear hd hz hf hw;simp only [RL, e0];go_simp;exact hK _ _ rfl SR
          ·refine RW 2 77 true hz (hw 2 rfl) ?_;have e0 := EP 78 wr.heap.size 3 (hw 3 rfl);have m0 := MC b3 hs tv;clear hd hz hf hw;simp only [RL, e0];go_simp;exact hK _ _ rfl SR
          ·refine RW 2 77 true hz (hw 2 rfl) ?_;have e0 := EV 79 (.string (str y.data)) (hw 4 rfl);clear hd hz hf hw;simp only [RL, e0];go_simp;exact hK _ _ rfl SR
          ·have e0 := EV 77 (.bool true) (hw 2 rfl);have e1 := EV 80 (.bool true) (hw 5 rfl);clear hd hz hf hw;simp only [if_true, RL, e0, e1];go_simp;exact hK _ _ rfl SR
          ·have e0 := EV 81 (.bool true) (hw 6 rfl);clear hd hz hf hw;simp only [if_true, RL, e0];go_simp;exact hK _ _ rfl SR
          ·refine SW 7 82 true hz (hw 7 rfl) ?_;exact hK _ _ rfl SR
          ·refine SW 7 82 true hz (hw 7 rfl) ?_;exact hK _ _ rfl SR
          ·refine SW 7 82 true hz (hw 7 rfl) ?_;exact hK _ _ rfl SR
          ·refine Qt (j := 10) (d := 85) rfl rfl hz (of_decide_eq_true rfl) (hw 10 rfl) ?_;exact hK _ _ rfl SR
          ·refine Qt (j := 10) (d := 85) rfl rfl hz (of_decide_eq_true rfl) (hw 10 rfl) ?_;exact hK _ _ rfl SR
          ·refine Qt (j := 10) (d := 85) rfl rfl hz (of_decide_eq_true rfl) (hw 10 rfl) ?_;exact hK _ _ rfl SR
          ·refine Qt (j := 10) (d := 85) rfl rfl hz (of_decide_eq_true rfl) (hw 10 rfl) ?_;exact hK _ _ rfl SR
          ·refine Qt (j := 10) (d := 85) rfl rfl hz (of_decide_eq_true rfl) (hw 10 rfl) ?_;exact hK _ _ rfl SR
          ·refine Qt (j := 10) (d := 85) rfl rfl hz (of_decide_eq_true rfl) (hw 10 rfl) ?_;exact hK _ _ rfl SR
          ·refine Qt (j := 10) (d := 85) rfl rfl hz (of_decide_eq_true rfl) (hw 10 rfl) ?_;exact hK _ _ rfl SR
          ·refine Qt (j := 10) (d := 85) rfl rfl hz (of_decide_eq_true rfl) (hw 10 rfl) ?_;exact hK _ _ rfl SR
          ·refine Qt (j := 10) (d := 85) rfl rfl hz (of_decide_eq_true rfl) (hw 10 rfl) ?_;exact hK _ _ rfl SR
          ·refine Qt (j := 10) (d := 85) rfl rfl hz (of_decide_eq_true rfl) (hw 10 rfl) ?_;exact hK _ _ rfl SR
          ·refine Qt (j := 10) (d := 85) rfl rfl hz (of_decide_eq_true rfl) (hw 10 rfl) ?_;exact hK _ _ rfl SR
          ·refine SW 7 82 true hz (hw 7 rfl) ?_;exact hK _ _ rfl SR
          ·have e0 := EV 82 (.bool true) (hw 7 rfl);have e1 := EV 97 undef (hw 22 rfl);clear hd hz hf hw;simp only [if_true, RL, e0, e1];go_simp;exact hK _ _ rfl SR
         ·intro wR hsR;simp only [Qk, Act.put, LP];go_wp2;go_ret;exact JE.no (Hng.out fun g => HVD.out (g.vers _ HyM.out)) ((HS.out.trans ((HS8.out.trans HSi.out).trans HS9.out)).trans hsR)
      ·obtain ⟨ad2, rfl, -, d0, d1, d2, d3⟩ := Zl.cells (Qw.keepAll Hvr.out (HS8.out.trans HSi.out)) hjl;have hym : c.vers[i2 + 1] ∈ c.vers := List.getElem_mem hjl;have hvn := fun h1 => J5 hjl Hso.out Hcl.out h1
       have hvn : (c.vers[i2 + 1].drop = true → c.vers[i2 + 1].data = []) → QG c.vers[i2].at_ c.vers[i2 + 1].at_ = true → XU (c.vers.take (i2 + 1 + 1)) ∧ YC (c.vers.take (i2 + 1 + 1)) := fun h1 h2 => hvn h1 (fun i h => by have e : i = i2 := (by omega); subst e; exact h2)
       have x3 : (0 : Int) ≤ ((i2 + 1 : Nat) : Int) := by omega
       have x4 : ((i2 + 1 : Nat) : Int) < (c.vers.length : Int) := by omega
       have hab2 := World.block_lt_of_cell? wr _ d0;have x3 : (0 : Int) ≤ (i2 : Int) + 1 := by omega
       have x4 : (i2 : Int) + 1 < (c.vers.length : Int) := by omega
       have Hvn := LH hvn;have HyM := LH hym;clear hvn hym;go_wp2;have rv := Row.new wr 69 (Qz c.vers[i2 + 1]);have hS9 := (Qa.refl (fun _ => True) wr).alloc (.cells (Qz c.vers[i2 + 1]).toArray 69);simp only [Qz] at rv hS9;clear d0 d1 d2 d3 hab2;revert rv hS9;generalize wr.alloc (.cells _ 69) = W9;intro rv hS9;have b0 : W9.cell? ⟨wr.heap.size, 0, none⟩ = some (.int .i64 c.vers[i2 + 1].at_.wall) := rv.cell 0;have b1 : W9.cell? ⟨wr.heap.size, 1, none⟩ = some (.int .i64 c.vers[i2 + 1].at_.tie) := rv.cell 1;have b2 : W9.cell? ⟨wr.heap.size, 2, none⟩ = some (.bool c.vers[i2 + 1].drop) := rv.cell 2;have b3 : W9.cell? ⟨wr.heap.size, 3, none⟩ = some (.string (str c.vers[i2 + 1].data)) := rv.cell 3;have z9 := rv.lt;have a1 := MC a1 hS9 tv;have HS9 := LH hS9;clear rv hS9;obtain ⟨ad2', e2', -, p0, p1, -, -⟩ := Zl.cells (Qw.keepAll Hvr.out (HS8.out.trans HSi.out)) (i := i2) (by omega);injection e2' with e2';subst e2';have gl := fun W => X8 c.vers[i2].at_ c.vers[i2 + 1].at_ W
       have hns := fun h => U2 (l := c.vers) hjl h
       have Hns := LH hns;clear hns;generalize c.vers[i2] = yp at *;have x5 : (0 : Int) ≤ (i2 : Int) := by omega
       have x6 : (i2 : Int) < (c.vers.length : Int) := by omega
       have x7 : (0 : Int) < (i2 : Int) + 1 := by omega
       have x8 : IntKind.i64.wrap (i2 : Int) = (i2 : Int) := by rw [IntKind.wrap_i64]; omega
       have p0 := HS9.out.cell (p := (ad2.add (i2 * 4))) tv p0;have p1 := HS9.out.cell (p := ⟨(ad2.add (i2 * 4)).block, (ad2.add (i2 * 4)).off + 1, none⟩) tv p1;generalize c.vers[i2 + 1] = y at *;cases hls : QG yp.at_ y.at_
       ·have hns := Hns.out hls;have Hn2 := LH hns;rw [hls] at gl;clear hls hns;cases hdr : y.drop
        ·rw [hdr] at b2;clear hdr;go_wp2;refine Qi (vs := [(.pointer (some ⟨wr.heap.size, 2, none⟩)), (.bool false), (.bool false), undef, undef, undef, (.bool false), (.bool false), (.int .i64 ((i2 : Int) + 1)), (.bool true), (.bool true), (.pointer (some ⟨wo.heap.size, 1, none⟩)), (.slice (some ad2) c.vers.length cu), (.int .i64 ((i2 : Int) + 1)), (.int .i64 i2), (.pointer (some (ad2.add (i2 * 4)))), (.pointer (some (ad2.add (i2 * 4)))), (stV yp.at_), (.pointer (some ⟨wr.heap.size, 0, none⟩)), (stV y.at_), (.bool false), (.bool true), (.bool true), (.bool true)]) (by kernel_rfl) (by kernel_rfl) rfl rfl ?_ ?_
         ·refine ⟨?_, ?_, ?_, ?_, ?_, ?_, ?_, ?_, ?_, ?_, ?_, ?_, ?_, ?_, ?_, ?_, ?_, ?_, ?_, ?_, ?_, ?_, ?_, ?_, tv⟩
          all_goals intro ac wc hs hd hz hf hw K hK
          ·have e0 := EP 6 wr.heap.size 0 (hf 6 rfl);clear hd hz hf hw;simp only [if_true, RL, e0];go_simp;exact hK _ _ rfl SR
          ·have e0 := EP 75 wr.heap.size 2 (hw 0 rfl);have m0 := MC b2 hs tv;clear hd hz hf hw;simp only [if_true, RL, e0];go_simp;exact hK _ _ rfl SR
          ·have e0 := EV 76 (.bool false) (hw 1 rfl);clear hd hz hf hw;simp only [if_true, RL, e0];go_simp;exact hK _ _ rfl SR
          ·refine SW 2 77 false hz (hw 2 rfl) ?_;exact hK _ _ rfl SR
          ·refine SW 2 77 false hz (hw 2 rfl) ?_;exact hK _ _ rfl SR
          ·refine SW 2 77 false hz (hw 2 rfl) ?_;exact hK _ _ rfl SR
          ·have e0 := EV 77 (.bool false) (hw 2 rfl);have e1 := EV 80 undef (hw 5 rfl);clear hd hz hf hw;simp only [if_true, RL, e0, e1];go_simp;exact hK _ _ rfl SR
          ·have e0 := EV 81 (.bool false) (hw 6 rfl);clear hd hz hf hw;simp only [if_true, RL, e0];go_simp;exact hK _ _ rfl SR
          ·refine RW 7 82 false hz (hw 7 rfl) ?_;have e0 : ac.eval (.tmp 5) = (.int .i64 ((i2 : Int) + 1)) := hf 5 rfl;clear hd hz hf hw;simp only [RL, e0];go_simp;exact hK _ _ rfl SR
          ·refine RW 7 82 false hz (hw 7 rfl) ?_;have e0 : ac.eval (.tmp 83) = (.int .i64 ((i2 : Int) + 1)) := hw 8 rfl;clear hd hz hf hw;simp only [RL, e0];go_simp;exact hK _ _ rfl SR
          ·refine RW 7 82 false hz (hw 7 rfl) ?_;have e0 := EV 84 (.bool true) (hw 9 rfl);clear hd hz hf hw;simp only [RL, e0];go_simp;exact hK _ _ rfl SR
          ·refine RW 10 85 true hz (hw 10 rfl) ?_;have e0 := EP 4 wo.heap.size 0 (hf 4 rfl);clear hd hz hf hw;simp only [RL, e0];go_simp;exact hK _ _ rfl SR
          ·refine RW 10 85 true hz (hw 10 rfl) ?_;have e0 := EP 86 wo.heap.size 1 (hw 11 rfl);have m0 := MC a1 hs tv;clear hd hz hf hw;simp only [RL, e0];go_simp;exact hK _ _ rfl SR
          ·refine RW 10 85 true hz (hw 10 rfl) ?_;have e0 : ac.eval (.tmp 5) = (.int .i64 ((i2 : Int) + 1)) := hf 5 rfl;clear hd hz hf hw;simp only [RL, e0];go_simp;exact hK _ _ rfl SR
          ·refine RW 10 85 true hz (hw 10 rfl) ?_;have e0 : ac.eval (.tmp 88) = (.int .i64 ((i2 : Int) + 1)) := hw 13 rfl;clear hd hz hf hw;simp only [RL, e0];go_simp;exact hK _ _ rfl SR
          ·refine RW 10 85 true hz (hw 10 rfl) ?_;have e0 := EV 87 (.slice (some ad2) c.vers.length cu) (hw 12 rfl);have e1 := EV 89 (.int .i64 i2) (hw 14 rfl);clear hd hz hf hw;simp only [RL, e0, e1];go_simp;exact hK _ _ rfl SR
          ·refine RW 10 85 true hz (hw 10 rfl) ?_;have e0 := EV 90 (.pointer (some (ad2.add (i2 * 4)))) (hw 15 rfl);clear hd hz hf hw;simp only [RL, e0];go_simp;exact hK _ _ rfl SR
          ·refine RW 10 85 true hz (hw 10 rfl) ?_;have e0 := EV 91 (.pointer (some (ad2.add (i2 * 4)))) (hw 16 rfl);have m0 := MC p0 hs tv;have m1 := MC p1 hs tv;clear hd hz hf hw;simp only [RL, e0];go_simp;exact hK _ _ rfl SR
          ·refine RW 10 85 true hz (hw 10 rfl) ?_;have e0 := EP 6 wr.heap.size 0 (hf 6 rfl);clear hd hz hf hw;simp only [RL, e0];go_simp;exact hK _ _ rfl SR
          ·refine RW 10 85 true hz (hw 10 rfl) ?_;have e0 := EP 93 wr.heap.size 0 (hw 18 rfl);have m0 := MC b0 hs tv;have m1 := MC b1 hs tv;clear hd hz hf hw;simp only [RL, e0];go_simp;exact hK _ _ rfl SR
          ·refine RW 10 85 true hz (hw 10 rfl) ?_;have e0 := EV 92 (stV yp.at_) (hw 17 rfl);have e1 := EV 94 (stV y.at_) (hw 19 rfl);clear hd hz hf hw;simp only [RL, e0, e1];go_simp;refine (gl _).mono ?_;rintro e wd ⟨rfl, hs2⟩;exact hK _ _ rfl hs2
          ·refine RW 10 85 true hz (hw 10 rfl) ?_;have e0 := EV 95 (.bool false) (hw 20 rfl);clear hd hz hf hw;simp only [RL, e0];go_simp;exact hK _ _ rfl SR
          ·refine RW 7 82 false hz (hw 7 rfl) ?_;have e0 := EV 85 (.bool true) (hw 10 rfl);have e1 := EV 96 (.bool true) (hw 21 rfl);clear hd hz hf hw;simp only [RL, e0, e1];go_simp;exact hK _ _ rfl SR
          ·have e0 := EV 82 (.bool false) (hw 7 rfl);have e1 := EV 97 (.bool true) (hw 22 rfl);clear hd hz hf hw;simp only [if_true, RL, e0, e1];go_simp;exact hK _ _ rfl SR
         ·intro wR hsR;simp only [Qk, Act.put, LP];go_wp2;go_ret;exact JE.no (Hng.out fun g => Hn2.out g.sort) ((HS.out.trans ((HS8.out.trans HSi.out).trans HS9.out)).trans hsR)
        ·rw [hdr] at b2;by_cases hdt : y.data = []
         ·rw [hdt] at b3;have b3 : W9.cell? ⟨wr.heap.size, 3, none⟩ = some (.string ⟨#[]⟩) := b3;clear hdr hdt;go_wp2;refine Qi (vs := [(.pointer (some ⟨wr.heap.size, 2, none⟩)), (.bool true), (.bool true), (.pointer (some ⟨wr.heap.size, 3, none⟩)), (.string ⟨#[]⟩), (.bool false), (.bool false), (.bool false), (.int .i64 ((i2 : Int) + 1)), (.bool true), (.bool true), (.pointer (some ⟨wo.heap.size, 1, none⟩)), (.slice (some ad2) c.vers.length cu), (.int .i64 ((i2 : Int) + 1)), (.int .i64 i2), (.pointer (some (ad2.add (i2 * 4)))), (.pointer (some (ad2.add (i2 * 4)))), (stV yp.at_), (.pointer (some ⟨wr.heap.size, 0, none⟩)), (stV y.at_), (.bool false), (.bool true), (.bool true), (.bool true)]) (by kernel_rfl) (by kernel_rfl) rfl rfl ?_ ?_
          ·refine ⟨?_, ?_, ?_, ?_, ?_, ?_, ?_, ?_, ?_, ?_, ?_, ?_, ?_, ?_, ?_, ?_, ?_, ?_, ?_, ?_, ?_, ?_, ?_, ?_, tv⟩
           all_goals intro ac wc hs hd hz hf hw K hK
           ·have e0 := EP 6 wr.heap.size 0 (hf 6 rfl);clear hd hz hf hw;simp only [if_true, RL, e0];go_simp;exact hK _ _ rfl SR
           ·have e0 := EP 75 wr.heap.size 2 (hw 0 rfl);have m0 := MC b2 hs tv;clear hd hz hf hw;simp only [if_true, RL, e0];go_simp;exact hK _ _ rfl SR
           ·have e0 := EV 76 (.bool true) (hw 1 rfl);clear hd hz hf hw;simp only [if_true, RL, e0];go_simp;exact hK _ _ rfl SR
           ·refine RW 2 77 true hz (hw 2 rfl) ?_;have e0 := EP 6 wr.heap.size 0 (hf 6 rfl);clear hd hz hf hw;simp only [RL, e0];go_simp;exact hK _ _ rfl SR
           ·refine RW 2 77 true hz (hw 2 rfl) ?_;have e0 := EP 78 wr.heap.size 3 (hw 3 rfl);have m0 := MC b3 hs tv;clear hd hz hf hw;simp only [RL, e0];go_simp;exact hK _ _ rfl SR
           ·refine RW 2 77 true hz (hw 2 rfl) ?_;have e0 := EV 79 (.string ⟨#[]⟩) (hw 4 rfl);clear hd hz hf hw;simp only [RL, e0];go_simp;exact hK _ _ rfl SR
           ·have e0 := EV 77 (.bool true) (hw 2 rfl);have e1 := EV 80 (.bool false) (hw 5 rfl);clear hd hz hf hw;simp only [if_true, RL, e0, e1];go_simp;exact hK _ _ rfl SR
           ·have e0 := EV 81 (.bool false) (hw 6 rfl);clear hd hz hf hw;simp only [if_true, RL, e0];go_simp;exact hK _ _ rfl SR
           ·refine RW 7 82 false hz (hw 7 rfl) ?_;have e0 : ac.eval (.tmp 5) = (.int .i64 ((i2 : Int) + 1)) := hf 5 rfl;clear hd hz hf hw;simp only [RL, e0];go_simp;exact hK _ _ rfl SR
           ·refine RW 7 82 false hz (hw 7 rfl) ?_;have e0 : ac.eval (.tmp 83) = (.int .i64 ((i2 : Int) + 1)) := hw 8 rfl;clear hd hz hf hw;simp only [RL, e0];go_simp;exact hK _ _ rfl SR
           ·refine RW 7 82 false hz (hw 7 rfl) ?_;have e0 := EV 84 (.bool true) (hw 9 rfl);clear hd hz hf hw;simp only [RL, e0];go_simp;exact hK _ _ rfl SR
           ·refine RW 10 85 true hz (hw 10 rfl) ?_;have e0 := EP 4 wo.heap.size 0 (hf 4 rfl);clear hd hz hf hw;simp only [RL, e0];go_simp;exact hK _ _ rfl SR
           ·refine RW 10 85 true hz (hw 10 rfl) ?_;have e0 := EP 86 wo.heap.size 1 (hw 11 rfl);have m0 := MC a1 hs tv;clear hd hz hf hw;simp only [RL, e0];go_simp;exact hK _ _ rfl SR
           ·refine RW 10 85 true hz (hw 10 rfl) ?_;have e0 : ac.eval (.tmp 5) = (.int .i64 ((i2 : Int) + 1)) := hf 5 rfl;clear hd hz hf hw;simp only [RL, e0];go_simp;exact hK _ _ rfl SR
           ·refine RW 10 85 true hz (hw 10 rfl) ?_;have e0 : ac.eval (.tmp 88) = (.int .i64 ((i2 : Int) + 1)) := hw 13 rfl;clear hd hz hf hw;simp only [RL, e0];go_simp;exact hK _ _ rfl SR
           ·refine RW 10 85 true hz (hw 10 rfl) ?_;have e0 := EV 87 (.slice (some ad2) c.vers.length cu) (hw 12 rfl);have e1 := EV 89 (.int .i64 i2) (hw 14 rfl);clear hd hz hf hw;simp only [RL, e0, e1];go_simp;exact hK _ _ rfl SR
           ·refine RW 10 85 true hz (hw 10 rfl) ?_;have e0 := EV 90 (.pointer (some (ad2.add (i2 * 4)))) (hw 15 rfl);clear hd hz hf hw;simp only [RL, e0];go_simp;exact hK _ _ rfl SR
           ·refine RW 10 85 true hz (hw 10 rfl) ?_;have e0 := EV 91 (.pointer (some (ad2.add (i2 * 4)))) (hw 16 rfl);have m0 := MC p0 hs tv;have m1 := MC p1 hs tv;clear hd hz hf hw;simp only [RL, e0];go_simp;exact hK _ _ rfl SR
           ·refine RW 10 85 true hz (hw 10 rfl) ?_;have e0 := EP 6 wr.heap.size 0 (hf 6 rfl);clear hd hz hf hw;simp only [RL, e0];go_simp;exact hK _ _ rfl SR
           ·refine RW 10 85 true hz (hw 10 rfl) ?_;have e0 := EP 93 wr.heap.size 0 (hw 18 rfl);have m0 := MC b0 hs tv;have m1 := MC b1 hs tv;clear hd hz hf hw;simp only [RL, e0];go_simp;exact hK _ _ rfl SR
           ·refine RW 10 85 true hz (hw 10 rfl) ?_;have e0 := EV 92 (stV yp.at_) (hw 17 rfl);have e1 := EV 94 (stV y.at_) (hw 19 rfl);clear hd hz hf hw;simp only [RL, e0, e1];go_simp;refine (gl _).mono ?_;rintro e wd ⟨rfl, hs2⟩;exact hK _ _ rfl hs2
           ·refine RW 10 85 true hz (hw 10 rfl) ?_;have e0 := EV 95 (.bool false) (hw 20 rfl);clear hd hz hf hw;simp only [RL, e0];go_simp;exact hK _ _ rfl SR
           ·refine RW 7 82 false hz (hw 7 rfl) ?_;have e0 := EV 85 (.bool true) (hw 10 rfl);have e1 := EV 96 (.bool true) (hw 21 rfl);clear hd hz hf hw;simp only [RL, e0, e1];go_simp;exact hK _ _ rfl SR
           ·have e0 := EV 82 (.bool false) (hw 7 rfl);have e1 := EV 97 (.bool true) (hw 22 rfl);clear hd hz hf hw;simp only [if_true, RL, e0, e1];go_simp;exact hK _ _ rfl SR
          ·intro wR hsR;simp only [Qk, Act.put, LP];go_wp2;go_ret;exact JE.no (Hng.out fun g => Hn2.out g.sort) ((HS.out.trans ((HS8.out.trans HSi.out).trans HS9.out)).trans hsR)
         ·have qd : ¬ (str y.data).toList = [] := by rw [ByteArray.toList_eq]; exact hdt
          have qd2 : ((str y.data).toList == []) = false := by simpa using qd
          clear hdr hdt;go_wp2;refine Qi (vs := [(.pointer (some ⟨wr.heap.size, 2, none⟩)), (.bool true), (.bool true), (.pointer (some ⟨wr.heap.size, 3, none⟩)), (.string (str y.data)), (.bool true), (.bool true), (.bool true), undef, undef, undef, undef, undef, undef, undef, undef, undef, undef, undef, undef, undef, undef, undef, (.bool true)]) (by kernel_rfl) (by kernel_rfl) rfl rfl ?_ ?_
          ·refine ⟨?_, ?_, ?_, ?_, ?_, ?_, ?_, ?_, ?_, ?_, ?_, ?_, ?_, ?_, ?_, ?_, ?_, ?_, ?_, ?_, ?_, ?_, ?_, ?_, tv⟩
           all_goals intro ac wc hs hd hz hf hw K hK
           ·have e0 := EP 6 wr.heap.size 0 (hf 6 rfl);clear hd hz hf hw;simp only [if_true, RL, e0];go_simp;exact hK _ _ rfl SR
           ·have e0 := EP 75 wr.heap.size 2 (hw 0 rfl);have m0 := MC b2 hs tv;clear hd hz hf hw;simp only [if_true, RL, e0];go_simp;exact hK _ _ rfl SR
           ·have e0 := EV 76 (.bool true) (hw 1 rfl);clear hd hz hf hw;simp only [if_true, RL, e0];go_simp;exact hK _ _ rfl SR
           ·refine RW 2 77 true hz (hw 2 rfl) ?_;have e0 := EP 6 wr.heap.size 0 (hf 6 rfl);clear hd hz hf hw;simp only [RL, e0];go_simp;exact hK _ _ rfl SR
           ·refine RW 2 77 true hz (hw 2 rfl) ?_;have e0 := EP 78 wr.heap.size 3 (hw 3 rfl);have m0 := MC b3 hs tv;clear hd hz hf hw;simp only [RL, e0];go_simp;exact hK _ _ rfl SR
           ·refine RW 2 77 true hz (hw 2 rfl) ?_;have e0 := EV 79 (.string (str y.data)) (hw 4 rfl);clear hd hz hf hw;simp only [RL, e0];go_simp;exact hK _ _ rfl SR
           ·have e0 := EV 77 (.bool true) (hw 2 rfl);have e1 := EV 80 (.bool true) (hw 5 rfl);clear hd hz hf hw;simp only [if_true, RL, e0, e1];go_simp;exact hK _ _ rfl SR
           ·have e0 := EV 81 (.bool true) (hw 6 rfl);clear hd hz hf hw;simp only [if_true, RL, e0];go_simp;exact hK _ _ rfl SR
           ·refine SW 7 82 true hz (hw 7 rfl) ?_;exact hK _ _ rfl SR
           ·refine SW 7 82 true hz (hw 7 rfl) ?_;exact hK _ _ rfl SR
           ·refine SW 7 82 true hz (hw 7 rfl) ?_;exact hK _ _ rfl SR
           ·refine Qt (j := 10) (d := 85) rfl rfl hz (of_decide_eq_true rfl) (hw 10 rfl) ?_;exact hK _ _ rfl SR
           ·refine Qt (j := 10) (d := 85) rfl rfl hz (of_decide_eq_true rfl) (hw 10 rfl) ?_;exact hK _ _ rfl SR
           ·refine Qt (j := 10) (d := 85) rfl rfl hz (of_decide_eq_true rfl) (hw 10 rfl) ?_;exact hK _ _ rfl SR
           ·refine Qt (j := 10) (d := 85) rfl rfl hz (of_decide_eq_true rfl) (hw 10 rfl) ?_;exact hK _ _ rfl SR
           ·refine Qt (j := 10) (d := 85) rfl rfl hz (of_decide_eq_true rfl) (hw 10 rfl) ?_;exact hK _ _ rfl SR
           ·refine Qt (j := 10) (d := 85) rfl rfl hz (of_decide_eq_true rfl) (hw 10 rfl) ?_;exact hK _ _ rfl SR
           ·refine Qt (j := 10) (d := 85) rfl rfl hz (of_decide_eq_true rfl) (hw 10 rfl) ?_;exact hK _ _ rfl SR
           ·refine Qt (j := 10) (d := 85) rfl rfl hz (of_decide_eq_true rfl) (hw 10 rfl) ?_;exact hK _ _ rfl SR
           ·refine Qt (j := 10) (d := 85) rfl rfl hz (of_decide_eq_true rfl) (hw 10 rfl) ?_;exact hK _ _ rfl SR
           ·refine Qt (j := 10) (d := 85) rfl rfl hz (of_decide_eq_true rfl) (hw 10 rfl) ?_;exact hK _ _ rfl SR
           ·refine Qt (j := 10) (d := 85) rfl rfl hz (of_decide_eq_true rfl) (hw 10 rfl) ?_;exact hK _ _ rfl SR
           ·refine SW 7 82 true hz (hw 7 rfl) ?_;exact hK _ _ rfl SR
           ·have e0 := EV 82 (.bool true) (hw 7 rfl);have e1 := EV 97 undef (hw 22 rfl);clear hd hz hf hw;simp only [if_true, RL, e0, e1];go_simp;exact hK _ _ rfl SR
          ·intro wR hsR;simp only [Qk, Act.put, LP];go_wp2;go_ret;exact JE.no (Hng.out fun g => Hn2.out g.sort) ((HS.out.trans ((HS8.out.trans HSi.out).trans HS9.out)).trans hsR)
       ·have HLS := LH hls;rw [hls] at gl;clear hls;cases hdr : y.drop
        ·rw [hdr] at b2;have hVD : y.drop = true → y.data = [] := fun h => by rw [hdr] at h; cases h
         have HVD := LH hVD;clear hVD hdr;go_wp2;refine Qi (vs := [(.pointer (some ⟨wr.heap.size, 2, none⟩)), (.bool false), (.bool false), undef, undef, undef, (.bool false), (.bool false), (.int .i64 ((i2 : Int) + 1)), (.bool true), (.bool true), (.pointer (some ⟨wo.heap.size, 1, none⟩)), (.slice (some ad2) c.vers.length cu), (.int .i64 ((i2 : Int) + 1)), (.int .i64 i2), (.pointer (some (ad2.add (i2 * 4)))), (.pointer (some (ad2.add (i2 * 4)))), (stV yp.at_), (.pointer (some ⟨wr.heap.size, 0, none⟩)), (stV y.at_), (.bool true), (.bool false), (.bool false), (.bool false)]) (by kernel_rfl) (by kernel_rfl) rfl rfl ?_ ?_
         ·refine ⟨?_, ?_, ?_, ?_, ?_, ?_, ?_, ?_, ?_, ?_, ?_, ?_, ?_, ?_, ?_, ?_, ?_, ?_, ?_, ?_, ?_, ?_, ?_, ?_, tv⟩
          all_goals intro ac wc hs hd hz hf hw K hK
          ·have e0 := EP 6 wr.heap.size 0 (hf 6 rfl);clear hd hz hf hw;simp only [if_true, RL, e0];go_simp;exact hK _ _ rfl SR
          ·have e0 := EP 75 wr.heap.size 2 (hw 0 rfl);have m0 := MC b2 hs tv;clear hd hz hf hw;simp only [if_true, RL, e0];go_simp;exact hK _ _ rfl SR
          ·have e0 := EV 76 (.bool false) (hw 1 rfl);clear hd hz hf hw;simp only [if_true, RL, e0];go_simp;exact hK _ _ rfl SR
          ·refine SW 2 77 false hz (hw 2 rfl) ?_;exact hK _ _ rfl SR
          ·refine SW 2 77 false hz (hw 2 rfl) ?_;exact hK _ _ rfl SR
          ·refine SW 2 77 false hz (hw 2 rfl) ?_;exact hK _ _ rfl SR
          ·have e0 := EV 77 (.bool false) (hw 2 rfl);have e1 := EV 80 undef (hw 5 rfl);clear hd hz hf hw;simp only [if_true, RL, e0, e1];go_simp;exact hK _ _ rfl SR
          ·have e0 := EV 81 (.bool false) (hw 6 rfl);clear hd hz hf hw;simp only [if_true, RL, e0];go_simp;exact hK _ _ rfl SR
          ·refine RW 7 82 false hz (hw 7 rfl) ?_;have e0 : ac.eval (.tmp 5) = (.int .i64 ((i2 : Int) + 1)) := hf 5 rfl;clear hd hz hf hw;simp only [RL, e0];go_simp;exact hK _ _ rfl SR
          ·refine RW 7 82 false hz (hw 7 rfl) ?_;have e0 : ac.eval (.tmp 83) = (.int .i64 ((i2 : Int) + 1)) := hw 8 rfl;clear hd hz hf hw;simp only [RL, e0];go_simp;exact hK _ _ rfl SR
          ·refine RW 7 82 false hz (hw 7 rfl) ?_;have e0 := EV 84 (.bool true) (hw 9 rfl);clear hd hz hf hw;simp only [RL, e0];go_simp;exact hK _ _ rfl SR
          ·refine RW 10 85 true hz (hw 10 rfl) ?_;have e0 := EP 4 wo.heap.size 0 (hf 4 rfl);clear hd hz hf hw;simp only [RL, e0];go_simp;exact hK _ _ rfl SR
          ·refine RW 10 85 true hz (hw 10 rfl) ?_;have e0 := EP 86 wo.heap.size 1 (hw 11 rfl);have m0 := MC a1 hs tv;clear hd hz hf hw;simp only [RL, e0];go_simp;exact hK _ _ rfl SR
          ·refine RW 10 85 true hz (hw 10 rfl) ?_;have e0 : ac.eval (.tmp 5) = (.int .i64 ((i2 : Int) + 1)) := hf 5 rfl;clear hd hz hf hw;simp only [RL, e0];go_simp;exact hK _ _ rfl SR
          ·refine RW 10 85 true hz (hw 10 rfl) ?_;have e0 : ac.eval (.tmp 88) = (.int .i64 ((i2 : Int) + 1)) := hw 13 rfl;clear hd hz hf hw;simp only [RL, e0];go_simp;exact hK _ _ rfl SR
          ·refine RW 10 85 true hz (hw 10 rfl) ?_;have e0 := EV 87 (.slice (some ad2) c.vers.length cu) (hw 12 rfl);have e1 := EV 89 (.int .i64 i2) (hw 14 rfl);clear hd hz hf hw;simp only [RL, e0, e1];go_simp;exact hK _ _ rfl SR
          ·refine RW 10 85 true hz (hw 10 rfl) ?_;have e0 := EV 90 (.pointer (some (ad2.add (i2 * 4)))) (hw 15 rfl);clear hd hz hf hw;simp only [RL, e0];go_simp;exact hK _ _ rfl SR
          ·refine RW 10 85 true hz (hw 10 rfl) ?_;have e0 := EV 91 (.pointer (some (ad2.add (i2 * 4)))) (hw 16 rfl);have m0 := MC p0 hs tv;have m1 := MC p1 hs tv;clear hd hz hf hw;simp only [RL, e0];go_simp;exact hK _ _ rfl SR
          ·refine RW 10 85 true hz (hw 10 rfl) ?_;have e0 := EP 6 wr.heap.size 0 (hf 6 rfl);clear hd hz hf hw;simp only [RL, e0];go_simp;exact hK _ _ rfl SR
          ·refine RW 10 85 true hz (hw 10 rfl) ?_;have e0 := EP 93 wr.heap.size 0 (hw 18 rfl);have m0 := MC b0 hs tv;have m1 := MC b1 hs tv;clear hd hz hf hw;simp only [RL, e0];go_simp;exact hK _ _ rfl SR
          ·refine RW 10 85 true hz (hw 10 rfl) ?_;have e0 := EV 92 (stV yp.at_) (hw 17 rfl);have e1 := EV 94 (stV y.at_) (hw 19 rfl);clear hd hz hf hw;simp only [RL, e0, e1];go_simp;refine (gl _).mono ?_;rintro e wd ⟨rfl, hs2⟩;exact hK _ _ rfl hs2
          ·refine RW 10 85 true hz (hw 10 rfl) ?_;have e0 := EV 95 (.bool true) (hw 20 rfl);clear hd hz hf hw;simp only [RL, e0];go_simp;exact hK _ _ rfl SR
          ·refine RW 7 82 false hz (hw 7 rfl) ?_;have e0 := EV 85 (.bool true) (hw 10 rfl);have e1 := EV 96 (.bool false) (hw 21 rfl);clear hd hz hf hw;simp only [RL, e0, e1];go_simp;exact hK _ _ rfl SR
          ·have e0 := EV 82 (.bool false) (hw 7 rfl);have e1 := EV 97 (.bool false) (hw 22 rfl);clear hd hz hf hw;simp only [if_true, RL, e0, e1];go_simp;exact hK _ _ rfl SR
         ·intro wR hsR;simp only [Qk, Act.put, LP];go_wp2;go_roundw
          case rel => exact ⟨i2 + 1 + 1, by go_num, by omega, (Hvn.out HVD.out (HLS.out)).1, (Hvn.out HVD.out (HLS.out)).2, (HSi.out.trans HS9.out).trans hsR⟩
          case measure => simp [intOf]; omega
        ·rw [hdr] at b2;by_cases hdt : y.data = []
         ·have hVD : y.drop = true → y.data = [] := fun _ => hdt
          rw [hdt] at b3;have b3 : W9.cell? ⟨wr.heap.size, 3, none⟩ = some (.string ⟨#[]⟩) := b3;have HVD := LH hVD;clear hVD hdr hdt;go_wp2;refine Qi (vs := [(.pointer (some ⟨wr.heap.size, 2, none⟩)), (.bool true), (.bool true), (.pointer (some ⟨wr.heap.size, 3, none⟩)), (.string ⟨#[]⟩), (.bool false), (.bool false), (.bool false), (.int .i64 ((i2 : Int) + 1)), (.bool true), (.bool true), (.pointer (some ⟨wo.heap.size, 1, none⟩)), (.slice (some ad2) c.vers.length cu), (.int .i64 ((i2 : Int) + 1)), (.int .i64 i2), (.pointer (some (ad2.add (i2 * 4)))), (.pointer (some (ad2.add (i2 * 4)))), (stV yp.at_), (.pointer (some ⟨wr.heap.size, 0, none⟩)), (stV y.at_), (.bool true), (.bool false), (.bool false), (.bool false)]) (by kernel_rfl) (by kernel_rfl) rfl rfl ?_ ?_
          ·refine ⟨?_, ?_, ?_, ?_, ?_, ?_, ?_, ?_, ?_, ?_, ?_, ?_, ?_, ?_, ?_, ?_, ?_, ?_, ?_, ?_, ?_, ?_, ?_, ?_, tv⟩
           all_goals intro ac wc hs hd hz hf hw K hK
           ·have e0 := EP 6 wr.heap.size 0 (hf 6 rfl);clear hd hz hf hw;simp only [if_true, RL, e0];go_simp;exact hK _ _ rfl SR
           ·have e0 := EP 75 wr.heap.size 2 (hw 0 rfl);have m0 := MC b2 hs tv;clear hd hz hf hw;simp only [if_true, RL, e0];go_simp;exact hK _ _ rfl SR
           ·have e0 := EV 76 (.bool true) (hw 1 rfl);clear hd hz hf hw;simp only [if_true, RL, e0];go_simp;exact hK _ _ rfl SR
           ·refine RW 2 77 true hz (hw 2 rfl) ?_;have e0 := EP 6 wr.heap.size 0 (hf 6 rfl);clear hd hz hf hw;simp only [RL, e0];go_simp;exact hK _ _ rfl SR
           ·refine RW 2 77 true hz (hw 2 rfl) ?_;have e0 := EP 78 wr.heap.size 3 (hw 3 rfl);have m0 := MC b3 hs tv;clear hd hz hf hw;simp only [RL, e0];go_simp;exact hK _ _ rfl SR
           ·refine RW 2 77 true hz (hw 2 rfl) ?_;have e0 := EV 79 (.string ⟨#[]⟩) (hw 4 rfl);clear hd hz hf hw;simp only [RL, e0];go_simp;exact hK _ _ rfl SR
           ·have e0 := EV 77 (.bool true) (hw 2 rfl);have e1 := EV 80 (.bool false) (hw 5 rfl);clear hd hz hf hw;simp only [if_true, RL, e0, e1];go_simp;exact hK _ _ rfl SR
           ·have e0 := EV 81 (.bool false) (hw 6 rfl);clear hd hz hf hw;simp only [if_true, RL, e0];go_simp;exact hK _ _ rfl SR
           ·refine RW 7 82 false hz (hw 7 rfl) ?_;have e0 : ac.eval (.tmp 5) = (.int .i64 ((i2 : Int) + 1)) := hf 5 rfl;clear hd hz hf hw;simp only [RL, e0];go_simp;exact hK _ _ rfl SR
           ·refine RW 7 82 false hz (hw 7 rfl) ?_;have e0 : ac.eval (.tmp 83) = (.int .i64 ((i2 : Int) + 1)) := hw 8 rfl;clear hd hz hf hw;simp only [RL, e0];go_simp;exact hK _ _ rfl SR
           ·refine RW 7 82 false hz (hw 7 rfl) ?_;have e0 := EV 84 (.bool true) (hw 9 rfl);clear hd hz hf hw;simp only [RL, e0];go_simp;exact hK _ _ rfl SR
           ·refine RW 10 85 true hz (hw 10 rfl) ?_;have e0 := EP 4 wo.heap.size 0 (hf 4 rfl);clear hd hz hf hw;simp only [RL, e0];go_simp;exact hK _ _ rfl SR
           ·refine RW 10 85 true hz (hw 10 rfl) ?_;have e0 := EP 86 wo.heap.size 1 (hw 11 rfl);have m0 := MC a1 hs tv;clear hd hz hf hw;simp only [RL, e0];go_simp;exact hK _ _ rfl SR
           ·refine RW 10 85 true hz (hw 10 rfl) ?_;have e0 : ac.eval (.tmp 5) = (.int .i64 ((i2 : Int) + 1)) := hf 5 rfl;clear hd hz hf hw;simp only [RL, e0];go_simp;exact hK _ _ rfl SR
           ·refine RW 10 85 true hz (hw 10 rfl) ?_;have e0 : ac.eval (.tmp 88) = (.int .i64 ((i2 : Int) + 1)) := hw 13 rfl;clear hd hz hf hw;simp only [RL, e0];go_simp;exact hK _ _ rfl SR
           ·refine RW 10 85 true hz (hw 10 rfl) ?_;have e0 := EV 87 (.slice (some ad2) c.vers.length cu) (hw 12 rfl);have e1 := EV 89 (.int .i64 i2) (hw 14 rfl);clear hd hz hf hw;simp only [RL, e0, e1];go_simp;exact hK _ _ rfl SR
           ·refine RW 10 85 true hz (hw 10 rfl) ?_;have e0 := EV 90 (.pointer (some (ad2.add (i2 * 4)))) (hw 15 rfl);clear hd hz hf hw;simp only [RL, e0];go_simp;exact hK _ _ rfl SR
           ·refine RW 10 85 true hz (hw 10 rfl) ?_;have e0 := EV 91 (.pointer (some (ad2.add (i2 * 4)))) (hw 16 rfl);have m0 := MC p0 hs tv;have m1 := MC p1 hs tv;clear hd hz hf hw;simp only [RL, e0];go_simp;exact hK _ _ rfl SR
           ·refine RW 10 85 true hz (hw 10 rfl) ?_;have e0 := EP 6 wr.heap.size 0 (hf 6 rfl);clear hd hz hf hw;simp only [RL, e0];go_simp;exact hK _ _ rfl SR
           ·refine RW 10 85 true hz (hw 10 rfl) ?_;have e0 := EP 93 wr.heap.size 0 (hw 18 rfl);have m0 := MC b0 hs tv;have m1 := MC b1 hs tv;clear hd hz hf hw;simp only [RL, e0];go_simp;exact hK _ _ rfl SR
           ·refine RW 10 85 true hz (hw 10 rfl) ?_;have e0 := EV 92 (stV yp.at_) (hw 17 rfl);have e1 := EV 94 (stV y.at_) (hw 19 rfl);clear hd hz hf hw;simp only [RL, e0, e1];go_simp;refine (gl _).mono ?_;rintro e wd ⟨rfl, hs2⟩;exact hK _ _ rfl hs2
           ·refine RW 10 85 true hz (hw 10 rfl) ?_;have e0 := EV 95 (.bool true) (hw 20 rfl);clear hd hz hf hw;simp only [RL, e0];go_simp;exact hK _ _ rfl SR
           ·refine RW 7 82 false hz (hw 7 rfl) ?_;have e0 := EV 85 (.bool true) (hw 10 rfl);have e1 := EV 96 (.bool false) (hw 21 rfl);clear hd hz hf hw;simp only [RL, e0, e1];go_simp;exact hK _ _ rfl SR
           ·have e0 := EV 82 (.bool false) (hw 7 rfl);have e1 := EV 97 (.bool false) (hw 22 rfl);clear hd hz hf hw;simp only [if_true, RL, e0, e1];go_simp;exact hK _ _ rfl SR
          ·intro wR hsR;simp only [Qk, Act.put, LP];go_wp2;go_roundw
           case rel => exact ⟨i2 + 1 + 1, by go_num, by omega, (Hvn.out HVD.out (HLS.out)).1, (Hvn.out HVD.out (HLS.out)).2, (HSi.out.trans HS9.out).trans hsR⟩
           case measure => simp [intOf]; omega
         ·have hVD : ¬ (y.drop = true → y.data = []) := fun h => hdt (h hdr)
          have qd : ¬ (str y.data).toList = [] := by rw [ByteArray.toList_eq]; exact hdt
          have qd2 : ((str y.data).toList == []) = false := by simpa using qd
          have HVD := LH hVD;clear hVD hdr hdt;go_wp2;refine Qi (vs := [(.pointer (some ⟨wr.heap.size, 2, none⟩)), (.bool true), (.bool true), (.pointer (some ⟨wr.heap.size, 3, none⟩)), (.string (str y.data)), (.bool true), (.bool true), (.bool true), undef, undef, undef, undef, undef, undef, undef, undef, undef, undef, undef, undef, undef, undef, undef, (.bool true)]) (by kernel_rfl) (by kernel_rfl) rfl rfl ?_ ?_
          ·refine ⟨?_, ?_, ?_, ?_, ?_, ?_, ?_, ?_, ?_, ?_, ?_, ?_, ?_, ?_, ?_, ?_, ?_, ?_, ?_, ?_, ?_, ?_, ?_, ?_, tv⟩
           all_goals intro ac wc hs hd hz hf hw K hK
           ·have e0 := EP 6 wr.heap.size 0 (hf 6 rfl);clear hd hz hf hw;simp only [if_true, RL, e0];go_simp;exact hK _ _ rfl SR
           ·have e0 := EP 75 wr.heap.size 2 (hw 0 rfl);have m0 := MC b2 hs tv;clear hd hz hf hw;simp only [if_true, RL, e0];go_simp;exact hK _ _ rfl SR
           ·have e0 := EV 76 (.bool true) (hw 1 rfl);clear hd hz hf hw;simp only [if_true, RL, e0];go_simp;exact hK _ _ rfl SR
           ·refine RW 2 77 true hz (hw 2 rfl) ?_;have e0 := EP 6 wr.heap.size 0 (hf 6 rfl);clear hd hz hf hw;simp only [RL, e0];go_simp;exact hK _ _ rfl SR
           ·refine RW 2 77 true hz (hw 2 rfl) ?_;have e0 := EP 78 wr.heap.size 3 (hw 3 rfl);have m0 := MC b3 hs tv;clear hd hz hf hw;simp only [RL, e0];go_simp;exact hK _ _ rfl SR
           ·refine RW 2 77 true hz (hw 2 rfl) ?_;have e0 := EV 79 (.string (str y.data)) (hw 4 rfl);clear hd hz hf hw;simp only [RL, e0];go_simp;exact hK _ _ rfl SR
           ·have e0 := EV 77 (.bool true) (hw 2 rfl);have e1 := EV 80 (.bool true) (hw 5 rfl);clear hd hz hf hw;simp only [if_true, RL, e0, e1];go_simp;exact hK _ _ rfl SR
           ·have e0 := EV 81 (.bool true) (hw 6 rfl);clear hd hz hf hw;simp only [if_true, RL, e0];go_simp;exact hK _ _ rfl SR
           ·refine SW 7 82 true hz (hw 7 rfl) ?_;exact hK _ _ rfl SR
           ·refine SW 7 82 true hz (hw 7 rfl) ?_;exact hK _ _ rfl SR
           ·refine SW 7 82 true hz (hw 7 rfl) ?_;exact hK _ _ rfl SR
           ·refine Qt (j := 10) (d := 85) rfl rfl hz (of_decide_eq_true rfl) (hw 10 rfl) ?_;exact hK _ _ rfl SR
           ·refine Qt (j := 10) (d := 85) rfl rfl hz (of_decide_eq_true rfl) (hw 10 rfl) ?_;exact hK _ _ rfl SR
           ·refine Qt (j := 10) (d := 85) rfl rfl hz (of_decide_eq_true rfl) (hw 10 rfl) ?_;exact hK _ _ rfl SR
           ·refine Qt (j := 10) (d := 85) rfl rfl hz (of_decide_eq_true rfl) (hw 10 rfl) ?_;exact hK _ _ rfl SR
           ·refine Qt (j := 10) (d := 85) rfl rfl hz (of_decide_eq_true rfl) (hw 10 rfl) ?_;exact hK _ _ rfl SR
           ·refine Qt (j := 10) (d := 85) rfl rfl hz (of_decide_eq_true rfl) (hw 10 rfl) ?_;exact hK _ _ rfl SR
           ·refine Qt (j := 10) (d := 85) rfl rfl hz (of_decide_eq_true rfl) (hw 10 rfl) ?_;exact hK _ _ rfl SR
           ·refine Qt (j := 10) (d := 85) rfl rfl hz (of_decide_eq_true rfl) (hw 10 rfl) ?_;exact hK _ _ rfl SR
           ·refine Qt (j := 10) (d := 85) rfl rfl hz (of_decide_eq_true rfl) (hw 10 rfl) ?_;exact hK _ _ rfl SR
           ·refine Qt (j := 10) (d := 85) rfl rfl hz (of_decide_eq_true rfl) (hw 10 rfl) ?_;exact hK _ _ rfl SR
           ·refine Qt (j := 10) (d := 85) rfl rfl hz (of_decide_eq_true rfl) (hw 10 rfl) ?_;exact hK _ _ rfl SR
           ·refine SW 7 82 true hz (hw 7 rfl) ?_;exact hK _ _ rfl SR
           ·have e0 := EV 82 (.bool true) (hw 7 rfl);have e1 := EV 97 undef (hw 22 rfl);clear hd hz hf hw;simp only [if_true, RL, e0, e1];go_simp;exact hK _ _ rfl SR
          ·intro wR hsR;simp only [Qk, Act.put, LP];go_wp2;go_ret;exact JE.no (Hng.out fun g => HVD.out (g.vers _ HyM.out)) ((HS.out.trans ((HS8.out.trans HSi.out).trans HS9.out)).trans hsR)
     ·obtain rfl : j = c.vers.length := by omega
      have hnx := Hnx.out ⟨by have := Hso.out; rwa [List.take_length] at this, by have := Hcl.out; rwa [List.take_length] at this, HF1.out, HF2.out, HF3.out⟩;have HN := LH hnx;clear hnx;go_wp2;go_roundw
      case rel => exact ⟨k + 1, by go_num, by omega, HN.out, (HS.out.trans HS8.out).trans HSi.out⟩
      case measure => simp [intOf]; omega
  ·obtain rfl : k = cs.length := by omega
   have hg : Zb cs := by have := HG.out; rwa [List.take_length] at this
   have HG2 := LH hg;clear hS hg;go_wp2;go_ret;exact JE.yes HG2.out HS.out
structure YX (p : Ql) : Prop where
 cells : Zb p.cells
 recs : Jf p.recs = true
 done : Jf p.done = true
 pos : 0 ≤ p.epoch
 most : p.epoch ≤ 1099511627776
 low : p.low ≤ p.closed ∨ p.low = 0
def XS (p : Ql) (w : World) (e : Ending) (w' : World) : Prop := ∃ b, e = .returned (.bool b) ∧ (b = true ↔ YX p) ∧ Qa (fun _ => True) w w'
theorem XS.no {p : Ql} {w w' : World} (h : ¬ YX p) (hs : Qa (fun _ => True) w w') : XS p w (.returned (.bool false)) w' := ⟨false, rfl, ⟨fun h => (nomatch h), fun g => absurd g h⟩, hs⟩
theorem XS.yes {p : Ql} {w w' : World} (h : YX p) (hs : Qa (fun _ => True) w w') : XS p w (.returned (.bool true)) w' := ⟨true, rfl, ⟨fun _ => h, fun _ => rfl⟩, hs⟩
set_option maxRecDepth 100000 in
set_option maxHeartbeats 4000000 in
theorem Qat (vc vr vd : Value) (p : Ql) (S : Nat → Prop) (w : World) (hv : XE w S vc vr vd p) (hn : X3 p) : Calls Try.prog 46 #[Qx vc vr vd p] w (XS p w) := by
 obtain ⟨Ac, cc, rfl, hc1, hc2⟩ := hv.cells.form;obtain ⟨Ar, cr, rfl, -, -⟩ := Q5.form hv.recs;obtain ⟨Ad, cd, rfl, -, -⟩ := Q5.form hv.done;have Hv := LH hv;have Hn := LH hn;clear hv hn;have RB0 : Hid (Row (w.alloc (.cells (Qb (.slice Ac p.cells.length cc) (.slice Ar p.recs.length cr) (.slice Ad p.done.length cd) p).toArray 77)) w.heap.size 77 (Qb (.slice Ac p.cells.length cc) (.slice Ar p.recs.length cr) (.slice Ad p.done.length cd) p)) := LH (Row.new w 77 (Qb (.slice Ac p.cells.length cc) (.slice Ar p.recs.length cr) (.slice Ad p.done.length cd) p));have HS : Hid (Qa (fun _ => True) w (w.alloc (.cells (Qb (.slice Ac p.cells.length cc) (.slice Ar p.recs.length cr) (.slice Ad p.done.length cd) p).toArray 77))) := LH (SR.alloc _);go_enter Try.func46, Try.ntmps46;go_wp2_with (go_at_call 31; refine Qf ?_);unfold Hid;simp only [Qb] at RB0 HS;revert RB0 HS;generalize w.alloc _ = w1;intro RB0 HS;refine (Un _ p.cells S w1 (Hv.out.cells.keepAll HS.out) Hn.out.cells Hn.out.vers).mono ?_;rintro e w2 ⟨b1, rfl, hb1, hS2⟩;have HB1 := LH hb1;have RB0 := LH (RB0.out.keep hS2 tv);have HS := LH (HS.out.trans hS2);clear hb1 hS2;have r_ := RB0.out;obtain ⟨p0, p1, p2, p3, p4, p5, p6, p7, p8⟩ := CN9 r_;clear r_;cases b1
 ·go_wp2;go_ret;exact XS.no (fun m => by have := HB1.out.2 m.cells; cases this) HS.out
 ·go_wp2_with (go_at_call 83; refine Qf ?_);unfold Hid;refine (Vg _ p.recs S _ (Qw.keepAll Hv.out.recs HS.out)).mono ?_;obtain ⟨b2, hb⟩ : ∃ b, b = Jf p.recs := ⟨_, rfl⟩;rw [← hb];have HB2 := LH hb;clear hb;rintro e w3 ⟨rfl, hS⟩;have RB0 := LH (RB0.out.keep hS tv);have HS := LH (HS.out.trans hS);clear hS;clear p0 p1 p2 p3 p4 p5 p6 p7 p8;have r_ := RB0.out;obtain ⟨p0, p1, p2, p3, p4, p5, p6, p7, p8⟩ := CN9 r_;clear r_;cases b2
  ·go_wp2;go_ret;exact XS.no (fun m => by have := HB2.out; rw [m.recs] at this; cases this) HS.out
  ·go_wp2_with (go_at_call 83; refine Qf ?_);unfold Hid;refine (Vg _ p.done S _ (Qw.keepAll Hv.out.done HS.out)).mono ?_;obtain ⟨b3, hb⟩ : ∃ b, b = Jf p.done := ⟨_, rfl⟩;rw [← hb];have HB3 := LH hb;clear hb;rintro e w4 ⟨rfl, hS⟩;have RB0 := LH (RB0.out.keep hS tv);have HS := LH (HS.out.trans hS);clear hS;clear p0 p1 p2 p3 p4 p5 p6 p7 p8;have r_ := RB0.out;obtain ⟨p0, p1, p2, p3, p4, p5, p6, p7, p8⟩ := CN9 r_;clear r_;cases b3
   ·go_wp2;go_ret;exact XS.no (fun m => by have := HB3.out; rw [m.done] at this; cases this) HS.out
   ·by_cases h1 : 0 ≤ p.epoch
    ·have d1 : decide (0 ≤ p.epoch) = true := decide_eq_true h1;by_cases h2 : p.epoch ≤ 1099511627776
     ·have d2 : decide (p.epoch ≤ 1099511627776) = true := decide_eq_true h2;by_cases h3 : p.low ≤ p.closed
      ·have d3 : decide (p.low ≤ p.closed) = true := decide_eq_true h3;have HM : Hid (YX p) := LH ⟨(by have := HB1.out; simpa using this), HB2.out.symm, HB3.out.symm, h1, h2, .inl h3⟩;clear h1 h2 h3;go_wp2;go_ret;exact XS.yes HM.out HS.out
      ·have d3 : decide (p.low ≤ p.closed) = false := decide_eq_false h3;by_cases h4 : p.low = 0
       ·have d4 : (p.low == 0) = true := by simpa using h4
        have HM : Hid (YX p) := LH ⟨(by have := HB1.out; simpa using this), HB2.out.symm, HB3.out.symm, h1, h2, .inr h4⟩;clear h1 h2 h3 h4;go_wp2;go_ret;exact XS.yes HM.out HS.out
       ·have d4 : (p.low == 0) = false := by simpa using h4
        have HM : Hid (¬ YX p) := LH (fun m => m.low.elim h3 h4);clear h1 h2 h3 h4;go_wp2;go_ret;exact XS.no HM.out HS.out
     ·have d2 : decide (p.epoch ≤ 1099511627776) = false := decide_eq_false h2;have HM : Hid (¬ YX p) := LH (fun m => h2 m.most);clear h1 h2;go_wp2;go_ret;exact XS.no HM.out HS.out
    ·have d1 : decide (0 ≤ p.epoch) = false := decide_eq_false h1;have HM : Hid (¬ YX p) := LH (fun m => h1 m.pos);clear h1;go_wp2;go_ret;exact XS.no HM.out HS.out
set_option maxRecDepth 100000 in
set_option maxHeartbeats 4000000 in
theorem Vt (vc vr vd : Value) (p : Ql) (S : Nat → Prop) (w : World) (hv : XE w S vc vr vd p) (hn : X3 p) : Calls Try.prog 47 #[Qx vc vr vd p] w (XS p w) := by
 obtain ⟨Ac, cc, rfl, hc1, hc2⟩ := hv.cells.form;obtain ⟨Ar, cr, rfl, -, -⟩ := Q5.form hv.recs;obtain ⟨Ad, cd, rfl, -, -⟩ := Q5.form hv.done;have Hv := LH hv;have Hn := LH hn;clear hv hn;have RB0 : Hid (Row (w.alloc (.cells (Qb (.slice Ac p.cells.length cc) (.slice Ar p.recs.length cr) (.slice Ad p.done.length cd) p).toArray 77)) w.heap.size 77 (Qb (.slice Ac p.cells.length cc) (.slice Ar p.recs.length cr) (.slice Ad p.done.length cd) p)) := LH (Row.new w 77 (Qb (.slice Ac p.cells.length cc) (.slice Ar p.recs.length cr) (.slice Ad p.done.length cd) p));have HS : Hid (Qa (fun _ => True) w (w.alloc (.cells (Qb (.slice Ac p.cells.length cc) (.slice Ar p.recs.length cr) (.slice Ad p.done.length cd) p).toArray 77))) := LH (SR.alloc _);go_enter Try.func47, Try.ntmps47;go_wp2_with (go_at_call 37; refine Qf ?_);unfold Hid;simp only [Qb] at RB0 HS;revert RB0 HS;generalize w.alloc _ = w1;intro RB0 HS;refine (VT _ p.cells S w1 (Hv.out.cells.keepAll HS.out) Hn.out.cells Hn.out.vers).mono ?_;rintro e w2 ⟨b1, rfl, hb1, hS2⟩;have HB1 := LH hb1;have RB0 := LH (RB0.out.keep hS2 tv);have HS := LH (HS.out.trans hS2);clear hb1 hS2;have r_ := RB0.out;obtain ⟨p0, p1, p2, p3, p4, p5, p6, p7, p8⟩ := CN9 r_;clear r_;cases b1
 ·go_wp2;go_ret;exact XS.no (fun m => by have := HB1.out.2 m.cells; cases this) HS.out
 ·by_cases h1 : 0 ≤ p.epoch
  ·have d1 : decide (p.epoch < 0) = false := decide_eq_false (by omega);by_cases h2 : p.epoch ≤ 1099511627776
   ·have d2 : decide (1099511627776 < p.epoch) = false := decide_eq_false (by omega);by_cases h3 : p.low ≤ p.closed ∨ p.low = 0
    ·have HN : Hid (0 ≤ p.epoch ∧ p.epoch ≤ 1099511627776 ∧ (p.low ≤ p.closed ∨ p.low = 0)) := LH ⟨h1, h2, h3⟩
     have d3 : (decide (p.closed < p.low) && (p.low != 0)) = false := by
      rcases h3 with h | h
      ·rw [decide_eq_false (by omega)]; rfl
      ·simp [h]
     obtain ⟨x3, hx3⟩ : ∃ b, b = decide (p.closed < p.low) := ⟨_, rfl⟩;obtain ⟨x4, hx4⟩ : ∃ b, b = (p.low != 0) := ⟨_, rfl⟩;rw [← hx3, ← hx4] at d3;have d3' := hx3.symm;have d4' := hx4.symm;clear h1 h2 h3 hx3 hx4;cases x3
     ·clear d3 d4';go_wp2_with (go_at_call 84; refine Qf ?_);unfold Hid;refine (Ji _ p.recs S _ (Qw.keepAll Hv.out.recs HS.out)).mono ?_;obtain ⟨b2, hb⟩ : ∃ b, b = Jf p.recs := ⟨_, rfl⟩;rw [← hb];have HB2 := LH hb;clear hb;rintro e w3 ⟨rfl, hS⟩;have RB0 := LH (RB0.out.keep hS tv);have HS := LH (HS.out.trans hS);clear hS;clear p0 p1 p2 p3 p4 p5 p6 p7 p8;have r_ := RB0.out;obtain ⟨p0, p1, p2, p3, p4, p5, p6, p7, p8⟩ := CN9 r_;clear r_;cases b2
      ·go_wp2;go_ret;exact XS.no (fun m => by have := HB2.out; rw [m.recs] at this; cases this) HS.out
      ·go_wp2_with (go_at_call 84; refine Qf ?_);unfold Hid;refine (Ji _ p.done S _ (Qw.keepAll Hv.out.done HS.out)).mono ?_;obtain ⟨b3, hb⟩ : ∃ b, b = Jf p.done := ⟨_, rfl⟩;rw [← hb];have HB3 := LH hb;clear hb;rintro e w4 ⟨rfl, hS⟩;have RB0 := LH (RB0.out.keep hS tv);have HS := LH (HS.out.trans hS);clear hS;clear p0 p1 p2 p3 p4 p5 p6 p7 p8;have r_ := RB0.out;obtain ⟨p0, p1, p2, p3, p4, p5, p6, p7, p8⟩ := CN9 r_;clear r_;cases b3
       ·go_wp2;go_ret;exact XS.no (fun m => by have := HB3.out; rw [m.done] at this; cases this) HS.out
       ·go_wp2;go_ret;exact XS.yes ⟨(by have := HB1.out; simpa using this), HB2.out.symm, HB3.out.symm, HN.out.1, HN.out.2.1, HN.out.2.2⟩ HS.out
     ·cases x4
      ·clear d3;go_wp2_with (go_at_call 84; refine Qf ?_);unfold Hid;refine (Ji _ p.recs S _ (Qw.keepAll Hv.out.recs HS.out)).mono ?_;obtain ⟨b2, hb⟩ : ∃ b, b = Jf p.recs := ⟨_, rfl⟩;rw [← hb];have HB2 := LH hb;clear hb;rintro e w3 ⟨rfl, hS⟩;have RB0 := LH (RB0.out.keep hS tv);have HS := LH (HS.out.trans hS);clear hS;clear p0 p1 p2 p3 p4 p5 p6 p7 p8;have r_ := RB0.out;obtain ⟨p0, p1, p2, p3, p4, p5, p6, p7, p8⟩ := CN9 r_;clear r_;cases b2
       ·go_wp2;go_ret;exact XS.no (fun m => by have := HB2.out; rw [m.recs] at this; cases this) HS.out
       ·go_wp2_with (go_at_call 84; refine Qf ?_);unfold Hid;refine (Ji _ p.done S _ (Qw.keepAll Hv.out.done HS.out)).mono ?_;obtain ⟨b3, hb⟩ : ∃ b, b = Jf p.done := ⟨_, rfl⟩;rw [← hb];have HB3 := LH hb;clear hb;rintro e w4 ⟨rfl, hS⟩;have RB0 := LH (RB0.out.keep hS tv);have HS := LH (HS.out.trans hS);clear hS;clear p0 p1 p2 p3 p4 p5 p6 p7 p8;have r_ := RB0.out;obtain ⟨p0, p1, p2, p3, p4, p5, p6, p7, p8⟩ := CN9 r_;clear r_;cases b3
        ·go_wp2;go_ret;exact XS.no (fun m => by have := HB3.out; rw [m.done] at this; cases this) HS.out
        ·go_wp2;go_ret;exact XS.yes ⟨(by have := HB1.out; simpa using this), HB2.out.symm, HB3.out.symm, HN.out.1, HN.out.2.1, HN.out.2.2⟩ HS.out
      ·cases d3
    ·have HM : Hid (¬ YX p) := LH (fun m => h3 m.low);have d3 : decide (p.closed < p.low) = true := decide_eq_true (by omega);have d4 : (p.low != 0) = true := by simp; omega
     clear h1 h2 h3;go_wp2;go_ret;exact XS.no HM.out HS.out
   ·have d2 : decide (1099511627776 < p.epoch) = true := decide_eq_true (by omega);have HM : Hid (¬ YX p) := LH (fun m => h2 m.most);clear h1 h2;go_wp2;go_ret;exact XS.no HM.out HS.out
  ·have d1 : decide (p.epoch < 0) = true := decide_eq_true (by omega);have HM : Hid (¬ YX p) := LH (fun m => h1 m.pos);clear h1;go_wp2;go_ret;exact XS.no HM.out HS.out
end Go.Proofs.Ytoldelocfmpccaa
namespace Go.Proofs.Ytoldelocfmpccaa
open Go.RowKit Go.ChangeShapes Go.WideShapes Go.ChangeAt
theorem Ys.row {P : Program} {e : TypeId} {α : Type} {C : Zj P e α} {f : α → List Value} {n : Nat} {w : World} {S : Nat → Prop} {v : Value} {xs : List α} (hf : ∀ x, (f x).length = n) (hn : 0 < n) (hce : P.cellsOf e = n)
  (hok : ∀ us x, C.ok w S us x → us = f x) (h : Ys C w S v xs) : Qw f n w S v xs := by
 obtain ⟨A, c, rfl, h2, h3, h4⟩ := h;refine ⟨A, c, rfl, h2, h3, XK f n hf xs, fun h0 => ?_⟩;have hl : 0 < xs.length := Nat.pos_of_ne_zero fun e => by rw [e] at h0; simp at h0
 obtain ⟨ad, us, rfl, hS, _, _⟩ := h4 0 xs[0] (List.getElem?_eq_getElem hl);refine ⟨ad, rfl, hS, fun j u hu => ?_⟩
 have hj : j < xs.length * n := by
  have := (List.getElem?_eq_some_iff.1 hu).1;rwa [XK f n hf xs] at this
 have hi : j / n < xs.length := Nat.div_lt_of_lt_mul (by rw [Nat.mul_comm]; exact hj);have hr : j % n < n := Nat.mod_lt _ hn;have hjd : j / n * n + j % n = j := Nat.div_add_mod' j n;obtain ⟨ad', us', e1, _, hc, hk⟩ := h4 (j / n) xs[j / n] (List.getElem?_eq_getElem hi);injection e1 with e1;subst e1;have := hok _ _ hk;subst this;have e2 := Kn f n hf xs (j / n) (j % n) hi hr;rw [hjd] at e2;rw [e2] at hu;have := hc (j % n) u hu;rwa [hce, hjd] at this
section
variable {w : World} {S : Nat → Prop} {vs : List Value}
end
end Go.Proofs.Ytoldelocfmpccaa
namespace Go.Proofs.Ytoldelocfmpccaa
open Go.RowKit
structure QJ where
 kind : Int
 epoch : Int
 node : Int
 home : Int
 by_ : QZ
 at_ : St
 wall : Int
 yes : Bool
 spans : List (List UInt8 × List UInt8)
 writes : List Wr
structure Qc where
 err : Int
 pairs : List (List UInt8 × List UInt8)
 by_ : QZ
 home : Int
 at_ : St
 wall : Int
 yes : Bool
def Qc.zero : Qc := ⟨0, [], ⟨0, 0, 0, 0⟩, 0, ⟨0, 0⟩, 0, false⟩
def Qs (e : Int) : Qc := { Qc.zero with err := e }
def Qd (vp : Value) (r : Qc) : List Value := [.int .i64 r.err, vp, .int .i64 r.by_.node, .int .i64 r.by_.life, .int .i64 r.by_.seq, .int .i64 r.by_.attempt, .int .i64 r.home, .int .i64 r.at_.wall, .int .i64 r.at_.tie, .int .i64 r.wall, .bool r.yes]
abbrev XN (vp : Value) (r : Qc) : Value := .agg #[.int .i64 r.err, vp, .int .i64 r.by_.node, .int .i64 r.by_.life, .int .i64 r.by_.seq, .int .i64 r.by_.attempt, .int .i64 r.home, .int .i64 r.at_.wall, .int .i64 r.at_.tie, .int .i64 r.wall, .bool r.yes]
def Qy (vs vw : Value) (c : QJ) : List Value := [.int .i64 c.kind, .int .i64 c.epoch, .int .i64 c.node, .int .i64 c.home, .int .i64 c.by_.node, .int .i64 c.by_.life, .int .i64 c.by_.seq, .int .i64 c.by_.attempt, .int .i64 c.at_.wall, .int .i64 c.at_.tie, .int .i64 c.wall, .bool c.yes, vs, vw]
abbrev Zk (vs vw : Value) (c : QJ) : Value := .agg #[.int .i64 c.kind, .int .i64 c.epoch, .int .i64 c.node, .int .i64 c.home, .int .i64 c.by_.node, .int .i64 c.by_.life, .int .i64 c.by_.seq, .int .i64 c.by_.attempt, .int .i64 c.at_.wall, .int .i64 c.at_.tie, .int .i64 c.wall, .bool c.yes, vs, vw]
abbrev Qe : Value := .slice none 0 0
def QE (l : Lck) : Qc := { Qc.zero with err := 20, by_ := l.by_, home := l.home, at_ := l.at_ }
theorem KP {W : World} {k : Nat} {vp : Value} {r : Qc} (R : Row W k 85 (Qd vp r)) {tmps : Array Value} (h2 : tmps.getD 2 undef = .pointer (some ⟨k, 0, none⟩)) :
  (results Try.f112 tmps).run Try.prog W = .ok (XN vp r) W := by
 obtain ⟨d0, d1, d2, d3, d4, d5, d6, d7, d8, d9, d10⟩ := QS R;simp at h2;simp [results, Try.results112, h2, go_sem, d0, d1, d2, d3, d4, d5, d6, d7, d8, d9, d10]
theorem ZL {W : World} {k : Nat} {vp : Value} {r : Qc} (R : Row W k 85 (Qd vp r)) {tmps : Array Value} (h2 : tmps.getD 4 undef = .pointer (some ⟨k, 0, none⟩)) :
  (results Try.f77 tmps).run Try.prog W = .ok (XN vp r) W := by
 obtain ⟨d0, d1, d2, d3, d4, d5, d6, d7, d8, d9, d10⟩ := QS R;simp at h2;simp [results, Try.results77, h2, go_sem, d0, d1, d2, d3, d4, d5, d6, d7, d8, d9, d10]
def QbO (r : Qc) (w : World) (e : Ending) (w' : World) : Prop := e = .returned (XN Qe r) ∧ Qa (fun _ => True) w w'
set_option maxHeartbeats 1000000 in
theorem Kz (l : Lck) (w : World) : Calls Try.prog 112 #[Q4 l] w (QbO (QE l) w) := by
 have r1 := Row.new (w.alloc (.cells (Qn l).toArray 30)) 85 (Qd Qe Qc.zero);have hS0 := ((Qa.refl (fun _ => True) w).alloc (.cells (Qn l).toArray 30)).alloc (.cells (Qd Qe Qc.zero).toArray 85);rw [World.size_alloc] at r1;go_enter Try.func112, Try.ntmps112;go_wp2;exact bodyPost_ret (KP (r := QE l) (vp := Qe) (show Row _ _ _ (Qd Qe (QE l)) from Row.new (w.alloc (.cells (Qn l).toArray 30)) 85 (Qd Qe (QE l))) (by rw [World.size_alloc]; rfl)) rfl ⟨rfl, ((Qa.refl (fun _ => True) w).alloc (.cells (Qn l).toArray 30)).alloc _⟩
def Zg (a b : St) : St := if QG a b then b else a
theorem YK {W : World} {k : Nat} {s : St} (R : Row W k 28 (QN s)) {tmps : Array Value} (h2 : tmps.getD 4 undef = .pointer (some ⟨k, 0, none⟩)) :
  (results Try.f113 tmps).run Try.prog W = .ok (stV s) W := by
 obtain ⟨d0, d1⟩ := CN2 R;simp at h2;simp [results, Try.results113, h2, go_sem, d0, d1]
set_option maxHeartbeats 1000000 in
theorem Qav (a b : St) (w : World) : Calls Try.prog 113 #[stV a, stV b] w fun e w' => e = .returned (stV (Zg a b)) ∧ Qa (fun _ => True) w w' := by
 have r0 := ((Row.new w 28 (QN a)).keep ((ST).alloc (.cells (QN b).toArray 28)) tv).keep ((ST).alloc (.cells (QN ⟨0, 0⟩).toArray 28)) tv;have r1 := (Row.new (w.alloc (.cells (QN a).toArray 28)) 28 (QN b)).keep ((ST).alloc (.cells (QN ⟨0, 0⟩).toArray 28)) tv;have r2 := Row.new ((w.alloc (.cells (QN a).toArray 28)).alloc (.cells (QN b).toArray 28)) 28 (QN ⟨0, 0⟩);have hS0 := (((Qa.refl (fun _ => True) w).alloc (.cells (QN a).toArray 28)).alloc (.cells (QN b).toArray 28)).alloc (.cells (QN ⟨0, 0⟩).toArray 28);rw [World.size_alloc] at r1;rw [World.size_alloc, World.size_alloc] at r2;go_enter Try.func113, Try.ntmps113;go_wp2_with (go_at_call 71; refine Qf ?_);unfold Hid;simp only [QN] at r0 r1 r2 hS0;revert r0 r1 r2 hS0;generalize ((w.alloc _).alloc _).alloc _ = w1;intro r0 r1 r2 hS0;refine (Z5 a b w1).mono ?_;rintro e w2 ⟨rfl, hS⟩;have HS := LH (hS0.trans hS);have r0 := r0.keep hS tv;have r1 := r1.keep hS tv;have r2 := r2.keep hS tv;have R2 := LH r2;obtain ⟨a0, a1⟩ := CN2 r0;obtain ⟨b0, b1⟩ := CN2 r1;obtain ⟨c0, c1⟩ := CN2 r2;obtain ⟨f0, f1⟩ := FN2 r2;have z2 := r2.lt;clear r0 r1 r2 hS hS0;cases hl : QG a b
 ·have HM := LH (show Zg a b = a by unfold Zg; rw [hl]; rfl);clear hl;go_wp2;exact bodyPost_ret (YK (s := a) (show Row _ _ _ (QN a) from R2.out.sets (QN a) 0) rfl) rfl ⟨by rw [HM.out], Qa.sets' (by omega) (QN a) 0 HS.out⟩
 ·have HM := LH (show Zg a b = b by unfold Zg; rw [hl]; rfl);clear hl;go_wp2;exact bodyPost_ret (YK (s := b) (show Row _ _ _ (QN b) from R2.out.sets (QN b) 0) rfl) rfl ⟨by rw [HM.out], Qa.sets' (by omega) (QN b) 0 HS.out⟩
def Zf (p : Ql) (c : QJ) : Bool := decide (p.epoch < 1099511627776) && (decide (c.epoch = p.epoch + 1) && decide (c.epoch ≤ 1099511627776))
def XT (p : Ql) (c : QJ) : Ql × Qc := if Zf p c then ({ p with epoch := c.epoch, holder := c.node }, Qc.zero) else (p, Qs 25)
def Sd (g : Nat) (vr vd : Value) : Nat → Prop := fun k => k ≠ g ∧ some k ≠ vr.ownBlock ∧ some k ≠ vd.ownBlock
theorem Qm.sd {w : World} {B g k : Nat} {vc vr vd : Value} {p : Ql} (h : Qm w B vc vr vd p) (hB : B ≤ g) (hk : k < B) : Sd g vr vd k :=
 ⟨by omega, fun e => by have := (h.recs.lt k e.symm).1; omega, fun e => by have := (h.done.lt k e.symm).1; omega⟩
theorem Qm.sdRow {w : World} {B g k : Nat} {e' : TypeId} {vc vr vd : Value} {p : Ql} {xs : List Value} (h : Qm w B vc vr vd p) (hr : Row w k e' xs) (he : 93 ≠ e') (hk : k ≠ g) : Sd g vr vd k := by
 have key : ∀ {v : Value} {l : List Out}, Jo w B v l → some k ≠ v.ownBlock := fun {v l} ho hk => by
  rcases XQ ho with ⟨rfl, _, _⟩ | ⟨g', cap, cur, rfl, _, hr', _⟩
  ·cases hk
  ·injection (show some k = some g' from hk) with hk;subst hk;exact hr'.ne hr he rfl
 exact ⟨hk, key h.recs, key h.done⟩
def Wj (B g : Nat) (vr0 vd0 : Value) (r : Ql × Qc) (w : World) (e : Ending) (w' : World) : Prop := ∃ vc vr vd vp, e = .returned (XN vp r.2) ∧ Row w' g 77 (Qb vc vr vd r.1) ∧ Qm w' B vc vr vd r.1 ∧ Xp w' B vp r.2.pairs ∧ Qa (Sd g vr0 vd0) w w'
set_option maxRecDepth 100000 in
set_option maxHeartbeats 2000000 in
theorem WB (g B : Nat) (vc vr vd vs vw : Value) (p : Ql) (c : QJ) (w : World) (hr : Row w g 77 (Qb vc vr vd p)) (ho : Qm w B vc vr vd p) (hB : B ≤ g) (hBw : B ≤ w.heap.size) (he : -9223372036854775808 ≤ p.epoch ∧ p.epoch ≤ 9223372036854775807) :
  Calls Try.prog 77 #[.pointer (some ⟨g, 0, none⟩), Zk vs vw c] w (Wj B g vr vd (XT p c) w) := by
 have r0 := (Row.new w 81 (Qy vs vw c)).keep ((ST).alloc (.cells (Qd Qe Qc.zero).toArray 85)) tv;have r1 := Row.new (w.alloc (.cells (Qy vs vw c).toArray 81)) 85 (Qd Qe Qc.zero);have hS0 := ((Qa.refl (fun _ => True) w).alloc (.cells (Qy vs vw c).toArray 81)).alloc (.cells (Qd Qe Qc.zero).toArray 85);rw [World.size_alloc] at r1;have Ho := LH ho;have Hr := LH hr;have hgl := hr.lt;clear ho hr;have hp := Hr.out.keep hS0 tv;have z1 := r1.lt;go_enter Try.func77, Try.ntmps77;go_wp2;simp only [Qb, Qy, Qd, Qc.zero] at r0 r1 hp hS0;revert r0 r1 hS0 hp z1;generalize (w.alloc _).alloc _ = w1;intro r0 r1 hS0 hp z1;have R0 := LH r0;have R1 := LH r1;have HP := LH hp;have HS0 := LH hS0;obtain ⟨p0, p1, p2, p3, p4, p5, p6, p7, p8⟩ := CN9 hp;obtain ⟨c0, c1, c2, c3, c4, c5, c6, c7, c8, c9, c10, c11, c12, c13⟩ := QW r0;obtain ⟨e0, e1, e2, e3, e4, e5, e6, e7, e8, e9, e10⟩ := QS r1;obtain ⟨f0, f1, f2, f3, f4, f5, f6, f7, f8, f9, f10⟩ := QO r1;obtain ⟨g0, g1, g2, g3, g4, g5, g6, g7, g8⟩ := FN9 hp;clear r0 r1 hp hS0;have hwrap : p.epoch < 1099511627776 → IntKind.i64.wrap (p.epoch + 1) = p.epoch + 1 := fun h => by rw [IntKind.wrap_i64]; omega
 by_cases h1 : p.epoch < 1099511627776
 ·have hwr := hwrap h1;have d1 : decide ((1099511627776 : Int) ≤ p.epoch) = false := by simp; omega
  by_cases h2 : c.epoch = p.epoch + 1
  ·have d2 : (c.epoch != p.epoch + 1) = false := by simp [h2]
   by_cases h3 : c.epoch ≤ 1099511627776
   ·have d3 : decide ((1099511627776 : Int) < c.epoch) = false := by simp; omega
    have HL := LH (show XT p c = ({ p with epoch := c.epoch, holder := c.node }, Qc.zero) by
     have : Zf p c = true := by simp [Zf, h1, h2]; omega
     unfold XT; rw [if_pos this])
    clear hwrap h1 h2 h3;go_quiet (fail);rename_i nq;have HS0 := LH (HS0.out.drewN nq);have r0 := R0.out.keep ((Qa.refl (fun _ => True) w1).drewN nq) tv;have r1 := R1.out.keep ((Qa.refl (fun _ => True) w1).drewN nq) tv;have hp := HP.out.keep ((Qa.refl (fun _ => True) w1).drewN nq) tv;clear p0 p1 p2 p3 p4 p5 p6 p7 p8 c0 c1 c2 c3 c4 c5 c6 c7 c8 c9 c10 c11 c12 c13 e0 f0 e1 f1 e2 f2 e3 f3 e4 f4 e5 f5 e6 f6 e7 f7 e8 f8 e9 f9 e10 f10 g0 g1 g2 g3 g4 g5 g6 g7 g8;generalize w1.drewN nq = w2 at *;have R0 := LH r0;have R1 := LH r1;have HP := LH hp;have z2 := r1.lt;have zp := hp.lt;obtain ⟨p0, p1, p2, p3, p4, p5, p6, p7, p8⟩ := CN9 hp;obtain ⟨c0, c1, c2, c3, c4, c5, c6, c7, c8, c9, c10, c11, c12, c13⟩ := QW r0;obtain ⟨e0, e1, e2, e3, e4, e5, e6, e7, e8, e9, e10⟩ := QS r1;obtain ⟨f0, f1, f2, f3, f4, f5, f6, f7, f8, f9, f10⟩ := QO r1;obtain ⟨g0, g1, g2, g3, g4, g5, g6, g7, g8⟩ := FN9 hp;clear r0 r1 hp;go_wp2;go_region;have hp3 := ((HP.out.set_ 0 (.int .i64 c.epoch)).set_ 1 (.int .i64 c.node)).keep ((ST).drew) tv;have hS3 : Qa (fun q => q ≠ g) w2 ((w2.setCell ⟨g, 0, none⟩ (.int .i64 c.epoch)).setCell ⟨g, 1, none⟩ (.int .i64 c.node)).drew := ((SR.setCell (fun _ h => h rfl) _).setCell (fun _ h => h rfl) _).drew;clear p0 p1 p2 p3 p4 p5 p6 p7 p8 c0 c1 c2 c3 c4 c5 c6 c7 c8 c9 c10 c11 c12 c13 e0 f0 e1 f1 e2 f2 e3 f3 e4 f4 e5 f5 e6 f6 e7 f7 e8 f8 e9 f9 e10 f10 g0 g1 g2 g3 g4 g5 g6 g7 g8;revert hp3 hS3;generalize ((w2.setCell _ _).setCell _ _).drew = w3;intro hp3 hS3;have r1 := R1.out.keep hS3 (by omega);have R1 := LH r1;have HP3 := LH (show Row w3 g 77 (Qb vc vr vd { p with epoch := c.epoch, holder := c.node }) from hp3);have Ho3 := LH ((Ho.out.keepAll HS0.out).keepG HP.out hS3);have HS3 := LH ((HS0.out.mono (S' := Sd g vr vd) fun _ _ _ => tv).trans' hS3 fun k _ hk => hk.1);have z3 := r1.lt;obtain ⟨e0, e1, e2, e3, e4, e5, e6, e7, e8, e9, e10⟩ := QS r1;obtain ⟨f0, f1, f2, f3, f4, f5, f6, f7, f8, f9, f10⟩ := QO r1;clear r1 hp3;go_wp2;have hS4 := Qa.sets' (S := Sd g vr vd) (w := w) (g := w.heap.size + 1) (by omega) (Qd Qe Qc.zero) 0 HS3.out;have hq := Qa.sets (S := fun q => q ≠ w.heap.size + 1) (g := w.heap.size + 1) (fun h => h rfl) (Qd Qe Qc.zero) 0 (Qa.refl _ w3);rw [HL.out];exact bodyPost_ret (ZL (r := Qc.zero) (vp := Qe) (show Row _ _ _ (Qd Qe Qc.zero) from R1.out.sets (Qd Qe Qc.zero) 0) rfl) rfl ⟨vc, vr, vd, Qe, rfl, HP3.out.keep hq (by omega), (Ho3.out.keepRep R1.out hq).upd, Qg.nil _ _, hS4⟩
   ·have d3 : decide ((1099511627776 : Int) < c.epoch) = true := by simp; omega
    have HL := LH (show XT p c = (p, Qs 25) by
     have : Zf p c = false := by simp [Zf, h1, h2]; omega
     unfold XT; rw [this]; rfl)
    clear hwrap h1 h2 h3;go_quiet (fail);rename_i nq;have HS0 := LH (HS0.out.drewN nq);have r0 := R0.out.keep ((Qa.refl (fun _ => True) w1).drewN nq) tv;have r1 := R1.out.keep ((Qa.refl (fun _ => True) w1).drewN nq) tv;have hp := HP.out.keep ((Qa.refl (fun _ => True) w1).drewN nq) tv;clear p0 p1 p2 p3 p4 p5 p6 p7 p8 c0 c1 c2 c3 c4 c5 c6 c7 c8 c9 c10 c11 c12 c13 e0 f0 e1 f1 e2 f2 e3 f3 e4 f4 e5 f5 e6 f6 e7 f7 e8 f8 e9 f9 e10 f10 g0 g1 g2 g3 g4 g5 g6 g7 g8;generalize w1.drewN nq = w2 at *;have R0 := LH r0;have R1 := LH r1;have HP := LH hp;have z2 := r1.lt;have zp := hp.lt;obtain ⟨p0, p1, p2, p3, p4, p5, p6, p7, p8⟩ := CN9 hp;obtain ⟨c0, c1, c2, c3, c4, c5, c6, c7, c8, c9, c10, c11, c12, c13⟩ := QW r0;obtain ⟨e0, e1, e2, e3, e4, e5, e6, e7, e8, e9, e10⟩ := QS r1;obtain ⟨f0, f1, f2, f3, f4, f5, f6, f7, f8, f9, f10⟩ := QO r1;obtain ⟨g0, g1, g2, g3, g4, g5, g6, g7, g8⟩ := FN9 hp;clear r0 r1 hp;go_wp2;have hS2 := Qa.sets' (S := fun _ => True) (w := w) (g := w.heap.size + 1) (by omega) (Qd Qe (Qs 25)) 0 HS0.out;have hq := Qa.sets (S := fun q => q ≠ w.heap.size + 1) (g := w.heap.size + 1) (fun h => h rfl) (Qd Qe (Qs 25)) 0 (Qa.refl _ w2);rw [HL.out];exact bodyPost_ret (ZL (r := Qs 25) (vp := Qe) (show Row _ _ _ (Qd Qe (Qs 25)) from R1.out.sets (Qd Qe (Qs 25)) 0) rfl) rfl ⟨vc, vr, vd, Qe, rfl, HP.out.keep hq (by omega), Ho.out.keepAll hS2, Qg.nil _ _, hS2.mono fun _ _ _ => tv⟩
  ·have d2 : (c.epoch != p.epoch + 1) = true := by simp [h2]
   have HL := LH (show XT p c = (p, Qs 25) by
    have : Zf p c = false := by simp [Zf, h1, h2]
    unfold XT; rw [this]; rfl)
   clear hwrap h1 h2;go_quiet (fail);rename_i nq;have HS0 := LH (HS0.out.drewN nq);have r0 := R0.out.keep ((Qa.refl (fun _ => True) w1).drewN nq) tv;have r1 := R1.out.keep ((Qa.refl (fun _ => True) w1).drewN nq) tv;have hp := HP.out.keep ((Qa.refl (fun _ => True) w1).drewN nq) tv;clear p0 p1 p2 p3 p4 p5 p6 p7 p8 c0 c1 c2 c3 c4 c5 c6 c7 c8 c9 c10 c11 c12 c13 e0 f0 e1 f1 e2 f2 e3 f3 e4 f4 e5 f5 e6 f6 e7 f7 e8 f8 e9 f9 e10 f10 g0 g1 g2 g3 g4 g5 g6 g7 g8;generalize w1.drewN nq = w2 at *;have R0 := LH r0;have R1 := LH r1;have HP := LH hp;have z2 := r1.lt;have zp := hp.lt;obtain ⟨p0, p1, p2, p3, p4, p5, p6, p7, p8⟩ := CN9 hp;obtain ⟨c0, c1, c2, c3, c4, c5, c6, c7, c8, c9, c10, c11, c12, c13⟩ := QW r0;obtain ⟨e0, e1, e2, e3, e4, e5, e6, e7, e8, e9, e10⟩ := QS r1;obtain ⟨f0, f1, f2, f3, f4, f5, f6, f7, f8, f9, f10⟩ := QO r1;obtain ⟨g0, g1, g2, g3, g4, g5, g6, g7, g8⟩ := FN9 hp;clear r0 r1 hp;go_wp2;have hS2 := Qa.sets' (S := fun _ => True) (w := w) (g := w.heap.size + 1) (by omega) (Qd Qe (Qs 25)) 0 HS0.out;have hq := Qa.sets (S := fun q => q ≠ w.heap.size + 1) (g := w.heap.size + 1) (fun h => h rfl) (Qd Qe (Qs 25)) 0 (Qa.refl _ w2);rw [HL.out];exact bodyPost_ret (ZL (r := Qs 25) (vp := Qe) (show Row _ _ _ (Qd Qe (Qs 25)) from R1.out.sets (Qd Qe (Qs 25)) 0) rfl) rfl ⟨vc, vr, vd, Qe, rfl, HP.out.keep hq (by omega), Ho.out.keepAll hS2, Qg.nil _ _, hS2.mono fun _ _ _ => tv⟩
 ·have d1 : decide ((1099511627776 : Int) ≤ p.epoch) = true := by simp; omega
  have HL := LH (show XT p c = (p, Qs 25) by
   have : Zf p c = false := by simp [Zf, h1]
   unfold XT; rw [this]; rfl)
  clear hwrap h1;go_quiet (fail);rename_i nq;have HS0 := LH (HS0.out.drewN nq);have r0 := R0.out.keep ((Qa.refl (fun _ => True) w1).drewN nq) tv;have r1 := R1.out.keep ((Qa.refl (fun _ => True) w1).drewN nq) tv;have hp := HP.out.keep ((Qa.refl (fun _ => True) w1).drewN nq) tv;clear p0 p1 p2 p3 p4 p5 p6 p7 p8 c0 c1 c2 c3 c4 c5 c6 c7 c8 c9 c10 c11 c12 c13 e0 f0 e1 f1 e2 f2 e3 f3 e4 f4 e5 f5 e6 f6 e7 f7 e8 f8 e9 f9 e10 f10 g0 g1 g2 g3 g4 g5 g6 g7 g8;generalize w1.drewN nq = w2 at *;have R0 := LH r0;have R1 := LH r1;have HP := LH hp;have z2 := r1.lt;have zp := hp.lt;obtain ⟨p0, p1, p2, p3, p4, p5, p6, p7, p8⟩ := CN9 hp;obtain ⟨c0, c1, c2, c3, c4, c5, c6, c7, c8, c9, c10, c11, c12, c13⟩ := QW r0;obtain ⟨e0, e1, e2, e3, e4, e5, e6, e7, e8, e9, e10⟩ := QS r1;obtain ⟨f0, f1, f2, f3, f4, f5, f6, f7, f8, f9, f10⟩ := QO r1;obtain ⟨g0, g1, g2, g3, g4, g5, g6, g7, g8⟩ := FN9 hp;clear r0 r1 hp;go_wp2;have hS2 := Qa.sets' (S := fun _ => True) (w := w) (g := w.heap.size + 1) (by omega) (Qd Qe (Qs 25)) 0 HS0.out;have hq := Qa.sets (S := fun q => q ≠ w.heap.size + 1) (g := w.heap.size + 1) (fun h => h rfl) (Qd Qe (Qs 25)) 0 (Qa.refl _ w2);rw [HL.out];exact bodyPost_ret (ZL (r := Qs 25) (vp := Qe) (show Row _ _ _ (Qd Qe (Qs 25)) from R1.out.sets (Qd Qe (Qs 25)) 0) rfl) rfl ⟨vc, vr, vd, Qe, rfl, HP.out.keep hq (by omega), Ho.out.keepAll hS2, Qg.nil _ _, hS2.mono fun _ _ _ => tv⟩
theorem Xp.cells {w : World} {B : Nat} {A : Option Addr} {n c : Nat} {l : List (List UInt8 × List UInt8)} (h : Xp w B (.slice A n c) l) {i : Nat} (hi : i < l.length) : ∃ ad, A = some ad ∧ B ≤ ad.block ∧
  w.cell? (ad.add (i * 2)) = some (.string (str l[i].1)) ∧ w.cell? ⟨(ad.add (i * 2)).block, (ad.add (i * 2)).off + 1, none⟩ = some (.string (str l[i].2)) := by
 obtain ⟨ad, c, h1, h2, h3, h4, h5⟩ := Qw.at_ ((Qg.wr h).row fun _ => rfl) (fun _ => rfl) hi;injection h1 with h1 _ _;exact ⟨ad, h1, h4, by have := h5 0 (by omega); rwa [add_zero] at this, h5 1 (by omega)⟩
theorem Xp.form {w : World} {B : Nat} {v : Value} {l : List (List UInt8 × List UInt8)} (h : Xp w B v l) : ∃ A c, v = .slice A l.length c ∧ l.length ≤ c ∧ c ≤ maxLen := Qg.form h
end Go.Proofs.Ytoldelocfmpccaa
