/-
  Words, plain models, laws and walks that the claims of this layer share (joined by shake.py). No condition.
-/
import Derived.Deep.CutBlock
import Derived.Test.YtdfojghhpdkpfaaGreatDoorG9
set_option linter.unusedSimpArgs false
set_option linter.unusedVariables false
namespace Go.Proofs.YtdfojghhpdkpfaaGreatDoor
open Go.RowKit
theorem fmt_any (n : Int) (w : World) (hn : I64 n) (hE : EnvT w) : Calls Tryz.prog 27 #[.int .i64 n, .int .i64 10] w (TextP (intL n) w) := by
 have hfi := Tryz.strconv_FormatInt_10 n hn.1 hn.2 w hE.tab;rw [itoa_int] at hfi;refine hfi.mono ?_;rintro e w2 ⟨rfl, kk, os, rfl⟩;exact ⟨rfl, (Same.ofBelow (Lib.below_grow w.heap.size w (Nat.le_refl _) kk os)).mono fun i hi _ => hi⟩
theorem intL_len {n : Int} (h : I64 n) : (intL n).length ≤ 25 := by
 unfold I64 at h;unfold intL;split
 ·have := digL_len 19 n.natAbs (by omega) (by omega);simp; omega
 ·have := digL_len 19 n.toNat (by omega) (by omega);omega
def p1S (s : Stm) : List UInt8 := if s.filt then [32, 87, 72, 69, 82, 69, 32] ++ showE s.cond else []
def p2S (s : Stm) : List UInt8 := if s.order = [] then [] else [32, 79, 82, 68, 69, 82, 32, 66, 89, 32] ++ s.order
def p3S (s : Stm) : List UInt8 := if s.down then [32, 68, 69, 83, 67] else []
def p4S (s : Stm) : List UInt8 := if s.kind = 1 ∧ 0 ≤ s.limit then [32, 76, 73, 77, 73, 84, 32] ++ intL s.limit else []
theorem showS_eq (s : Stm) : showS s = headS s ++ p1S s ++ p2S s ++ p3S s ++ p4S s := by
 simp only [showS, tailS, p1S, p2S, p3S, p4S, List.append_assoc]
/-- What is known of a statement that may be. -/
structure MayS (s : Stm) : Prop where
 table : wordF s.table = true
 cond : s.filt = true → mayE s.cond 16 = true
 items : s.kind = 1 → mayIs s.items = true
 rows : s.kind = 2 → mayRows s.rows = true
 sets : s.kind = 3 → maySets s.sets = true
 order : s.order.length ≤ 16
theorem MayS.of {s : Stm} (h : mayS s = true) : MayS s := by
 have h0 := h;simp only [mayS, Bool.and_eq_true] at h;obtain ⟨⟨⟨⟨⟨ht, hw⟩, ho⟩, -⟩, -⟩, hk⟩ := h;refine ⟨ht, fun hf => by rw [hf] at hw; exact hw, fun h1 => ?_, fun h2 => ?_, fun h3 => ?_, ?_⟩
 ·rw [if_pos h1] at hk; simp only [Bool.and_eq_true] at hk; exact hk.1.1
 ·rw [if_neg (by omega), if_pos h2] at hk; simp only [Bool.and_eq_true] at hk; exact hk.1
 ·rw [if_neg (by omega), if_neg (by omega), if_pos h3] at hk; exact hk
 ·by_cases h1 : s.kind = 1
  ·rw [if_pos h1] at hk;simp only [Bool.and_eq_true, Bool.or_eq_true, decide_eq_true_eq] at hk;rcases hk.1.2 with h | h
   ·rw [h.1]; simp
   ·exact word_len h
  ·simp only [Bool.or_eq_true, Bool.and_eq_true, decide_eq_true_eq] at ho;rcases ho with h | h
   ·exact absurd h h1
   ·rw [h.1.1.2]; simp
set_option maxRecDepth 100000 in
set_option maxHeartbeats 16000000 in
theorem stmtx_any (s : Stm) (u : SU) (w : World) (hms : mayS s = true) (hI : StI s) (h : StR w (fun _ => True) u s) (hE : EnvT w) : Calls Tryz.prog 25 #[stV u s] w (TextP (showS s) w) := by
 obtain ⟨ui, ur, us, uc⟩ := u;obtain ⟨A_u1, c_u1, q1, -⟩ := LsR.form (show LsR itCs 7 itOk _ _ ui s.items from h.1);subst q1;obtain ⟨A_u2, c_u2, q2, -⟩ := LsR.form (show LsR rwCs 1 rwOk _ _ ur s.rows from h.2.1);subst q2;obtain ⟨A_u3, c_u3, q3, -⟩ := LsR.form (show LsR asCs 7 asOk _ _ us s.sets from h.2.2.1);subst q3;obtain ⟨A_u4, c_u4, q4, -⟩ := (show ExR _ _ uc s.cond from h.2.2.2).toL.form;subst q4;have HMS := LH (MayS.of hms);have HSI := LH hI;have hA := (Same.refl (fun _ => True) w).alloc (.cells #[.int .i64 s.kind, .string (str s.table), .slice A_u1 s.items.length c_u1, .slice A_u2 s.rows.length c_u2, .slice A_u3 s.sets.length c_u3, .bool s.filt, .int .i64 s.cond.kind, .string (str s.cond.s), .int .i64 s.cond.v.kind, .int .i64 s.cond.v.n, .string (str s.cond.v.s), .slice A_u4 s.cond.args.length c_u4, .string (str s.order), .bool s.down, .int .i64 s.limit] 44);have hrow := Row.new w 44 [.int .i64 s.kind, .string (str s.table), .slice A_u1 s.items.length c_u1, .slice A_u2 s.rows.length c_u2, .slice A_u3 s.sets.length c_u3, .bool s.filt, .int .i64 s.cond.kind, .string (str s.cond.s), .int .i64 s.cond.v.kind, .int .i64 s.cond.v.n, .string (str s.cond.v.s), .slice A_u4 s.cond.args.length c_u4, .string (str s.order), .bool s.down, .int .i64 s.limit];have hst := stK.keep h hA;have hE1 := hE.keepAll hA;clear hms hI h hE;go_enter Tryz.func25, Tryz.ntmps25;go_upto_block 0 with (fail);revert hA hrow hst hE1;generalize w.alloc _ = W0;intro hA hrow hst hE1;have HROW := LH hrow;have HST := LH hst;have HE := LH hE1;have HS := LH hA;have c0 := HROW.out.cell 0;have c1 := HROW.out.cell 1;have c2 := HROW.out.cell 2;have c3 := HROW.out.cell 3;have c4 := HROW.out.cell 4;have c5 := HROW.out.cell 5;have c6 := HROW.out.cell 6;have c7 := HROW.out.cell 7;have c8 := HROW.out.cell 8;have c9 := HROW.out.cell 9;have c10 := HROW.out.cell 10;have c11 := HROW.out.cell 11;have c12 := HROW.out.cell 12;have c13 := HROW.out.cell 13;have c14 := HROW.out.cell 14;simp only [LG] at c0 c1 c2 c3 c4 c5 c6 c7 c8 c9 c10 c11 c12 c13 c14;clear hA hrow hst hE1;go_cut [3] from 6 to 38 (fun v wx => ∃ (W : World) (H : List UInt8), W = wx ∧ v = .string (str H) ∧ Hid (H = headS s) ∧ H.length ≤ 2000000000 ∧ Row W w.heap.size 44 [.int .i64 s.kind, .string (str s.table), .slice A_u1 s.items.length c_u1, .slice A_u2 s.rows.length c_u2, .slice A_u3 s.sets.length c_u3, .bool s.filt, .int .i64 s.cond.kind, .string (str s.cond.s), .int .i64 s.cond.v.kind, .int .i64 s.cond.v.n, .string (str s.cond.v.s), .slice A_u4 s.cond.args.length c_u4, .string (str s.order), .bool s.down, .int .i64 s.limit] ∧ StR W (fun _ => True) (⟨.slice A_u1 s.items.length c_u1, .slice A_u2 s.rows.length c_u2, .slice A_u3 s.sets.length c_u3, .slice A_u4 s.cond.args.length c_u4⟩ : SU) s ∧ EnvT W ∧ Same (fun _ => True) w W)
 case first =>
  by_cases hk1 : s.kind = 1
  ·have ek1 := int_eq_t hk1;have hmi := HMS.out.items hk1;simp only [mayIs, Bool.and_eq_true, List.all_eq_true, decide_eq_true_eq] at hmi;have gA : ∀ W, Same (fun _ => True) W0 W → Calls Tryz.prog 42 #[.slice A_u1 s.items.length c_u1, .func (.func 43) #[] #[]] W (TextP (joinT [44, 32] (s.items.map showI)) W) := fun W hs => list_It showI 13107300 (by omega) s.items _ W (HST.out.1.keepAll itK hs) (HE.out.keepAll hs) (by omega) (fun x hx => showI_len (hmi.1.1 x hx) (HSI.out.items x hx)) fun i hi u W' hu hE' => itemx_any s.items.length s.items[i] u W' (hmi.1.1 _ (List.getElem_mem hi)) (HSI.out.items _ (List.getElem_mem hi)) hu hE'
   have hlen : (joinT [44, 32] (s.items.map showI)).length ≤ 100000000 := by
    have h1 := join_len [44, 32] 13107300 (s.items.map showI) fun x hx => by
     obtain ⟨y, hy, rfl⟩ := List.mem_map.1 hx;exact showI_len (hmi.1.1 y hy) (HSI.out.items y hy)
    rw [List.length_map] at h1;have h2 : s.items.length * (13107300 + [44, 32].length) ≤ 6 * (13107300 + 2) := Nat.mul_le_mul hmi.2 (by simp);omega
   clear hmi;obtain ⟨D, hD⟩ : ∃ D, D = joinT [44, 32] (s.items.map showI) := ⟨_, rfl⟩;rw [← hD] at gA hlen;obtain ⟨Y1, hY1⟩ : ∃ Y, Y = [83, 69, 76, 69, 67, 84, 32] ++ D := ⟨_, rfl⟩;obtain ⟨Y2, hY2⟩ : ∃ Y, Y = Y1 ++ [32, 70, 82, 79, 77, 32] := ⟨_, rfl⟩;obtain ⟨Y3, hY3⟩ : ∃ Y, Y = Y2 ++ s.table := ⟨_, rfl⟩;have lY1 : Y1.length = ([83, 69, 76, 69, 67, 84, 32] : List UInt8).length + (D : List UInt8).length := by rw [hY1, List.length_append]
   have lY2 : Y2.length = (Y1 : List UInt8).length + ([32, 70, 82, 79, 77, 32] : List UInt8).length := by rw [hY2, List.length_append]
   have lY3 : Y3.length = (Y2 : List UInt8).length + (s.table : List UInt8).length := by rw [hY3, List.length_append]
   simp only [List.length_cons, List.length_nil] at lY1 lY2 lY3;have hlt := word_len HMS.out.table;have a1 : ∀ w, (Op.stringOp .add ⟨#[83, 69, 76, 69, 67, 84, 32]⟩ (str D)).run Tryz.prog w = .ok (.string (str Y1)) w := fun w => hY1 ▸ add_str [83, 69, 76, 69, 67, 84, 32] D (by first | omega | (simp only [List.length_cons, List.length_nil]; omega)) w
   have a2 : ∀ w, (Op.stringOp .add (str Y1) ⟨#[32, 70, 82, 79, 77, 32]⟩).run Tryz.prog w = .ok (.string (str Y2)) w := fun w => hY2 ▸ add_str Y1 [32, 70, 82, 79, 77, 32] (by first | omega | (simp only [List.length_cons, List.length_nil]; omega)) w
   have a3 : ∀ w, (Op.stringOp .add (str Y2) (str s.table)).run Tryz.prog w = .ok (.string (str Y3)) w := fun w => hY3 ▸ add_str Y2 s.table (by first | omega | (simp only [List.length_cons, List.length_nil]; omega)) w
   have HB : Hid (Y3 = headS s) := LH (by rw [hY3, hY2, hY1, hD]; unfold headS; rw [if_pos hk1]; all_goals simp);have hl9 : Y3.length ≤ 2000000000 := by omega
   have HL9 := LH hl9;clear hl9 lY1 lY2 lY3 hlt hlen hD hY1 hY2 hY3 hk1;go_upto_region 5 with (fail);refine wp_region_eq_lit (vs := [(.pointer (some ⟨w.heap.size, 2, none⟩)), (.slice A_u1 s.items.length c_u1), (.string (str D)), (.string (str Y1)), (.string (str Y2)), (.pointer (some ⟨w.heap.size, 1, none⟩)), (.string (str s.table)), (.string (str Y3)), (.string (str Y3))]) (by kernel_rfl) (by kernel_rfl) rfl rfl ?_ ?_
   ·refine ⟨?_, ?_, ?_, ?_, ?_, ?_, ?_, ?_, ?_, tv⟩
    all_goals intro ac wc hs hd hz hf hw K hK
    ·have e0 := EP 1 w.heap.size 0 (hf 1 rfl);clear hd hz hf hw;simp only [if_true, RL, e0];go_simp;exact hK _ _ rfl SR
    ·have e0 := EP 11 w.heap.size 2 (hw 0 rfl);have m0 := MC c2 hs tv;clear hd hz hf hw;simp only [if_true, RL, e0];go_simp;exact hK _ _ rfl SR
    ·have e0 := EV 12 (.slice A_u1 s.items.length c_u1) (hw 1 rfl);clear hd hz hf hw;simp only [if_true, RL, e0];go_simp;refine (gA _ hs).mono ?_;rintro e wd ⟨rfl, hsd⟩;exact hK _ _ rfl hsd
    ·have e0 := EV 13 (.string (str D)) (hw 2 rfl);clear hd hz hf hw;simp only [if_true, RL, e0];go_simp;exact hK _ _ rfl SR
    ·have e0 := EV 14 (.string (str Y1)) (hw 3 rfl);clear hd hz hf hw;simp only [if_true, RL, e0];go_simp;exact hK _ _ rfl SR
    ·have e0 := EP 1 w.heap.size 0 (hf 1 rfl);clear hd hz hf hw;simp only [if_true, RL, e0];go_simp;exact hK _ _ rfl SR
    ·have e0 := EP 16 w.heap.size 1 (hw 5 rfl);have m0 := MC c1 hs tv;clear hd hz hf hw;simp only [if_true, RL, e0];go_simp;exact hK _ _ rfl SR
    ·have e0 := EV 15 (.string (str Y2)) (hw 4 rfl);have e1 := EV 17 (.string (str s.table)) (hw 6 rfl);clear hd hz hf hw;simp only [if_true, RL, e0, e1];go_simp;exact hK _ _ rfl SR
    ·have e0 := EV 18 (.string (str Y3)) (hw 7 rfl);clear hd hz hf hw;simp only [if_true, RL, e0];go_simp;exact hK _ _ rfl SR
   ·intro wR hsR;simp only [putAll, Act.put, LP];have HROW := LH (HROW.out.keep hsR tv);have HST := LH (stK.keep HST.out hsR);have HE := LH (HE.out.keepAll hsR);have HS := LH (HS.out.trans hsR);clear hsR;go_wp2;go_meet
    case rel => exact ⟨_, Y3, rfl, rfl, HB, HL9.out, HROW.out, HST.out, HE.out, HS.out⟩
  ·have ek1 := int_eq_f hk1;by_cases hk2 : s.kind = 2
   ·have ek2 := int_eq_t hk2;have hmi := HMS.out.rows hk2;simp only [mayRows, Bool.and_eq_true, List.all_eq_true, decide_eq_true_eq] at hmi;have gA : ∀ W, Same (fun _ => True) W0 W → Calls Tryz.prog 44 #[.slice A_u2 s.rows.length c_u2, .func (.func 45) #[] #[]] W (TextP (joinT [44, 32] (s.rows.map showR)) W) := fun W hs => list_Rw showR 78643400 (by omega) s.rows _ W (HST.out.2.1.keepAll rwK hs) (HE.out.keepAll hs) (by omega) (fun x hx => showR_len (hmi.1.1 x hx) (HSI.out.rows x hx)) fun i hi u W' hu hE' => rowx_any s.rows[i] u W' (hmi.1.1 _ (List.getElem_mem hi)) (HSI.out.rows _ (List.getElem_mem hi)) hu hE'
    have hlen : (joinT [44, 32] (s.rows.map showR)).length ≤ 1300000000 := by
     have h1 := join_len [44, 32] 78643400 (s.rows.map showR) fun x hx => by
      obtain ⟨y, hy, rfl⟩ := List.mem_map.1 hx;exact showR_len (hmi.1.1 y hy) (HSI.out.rows y hy)
     rw [List.length_map] at h1;have h2 : s.rows.length * (78643400 + [44, 32].length) ≤ 16 * (78643400 + 2) := Nat.mul_le_mul hmi.2 (by simp);omega
    clear hmi;obtain ⟨D, hD⟩ : ∃ D, D = joinT [44, 32] (s.rows.map showR) := ⟨_, rfl⟩;rw [← hD] at gA hlen;obtain ⟨Y1, hY1⟩ : ∃ Y, Y = [73, 78, 83, 69, 82, 84, 32, 73, 78, 84, 79, 32] ++ s.table := ⟨_, rfl⟩;obtain ⟨Y2, hY2⟩ : ∃ Y, Y = Y1 ++ [32, 86, 65, 76, 85, 69, 83, 32] := ⟨_, rfl⟩;obtain ⟨Y3, hY3⟩ : ∃ Y, Y = Y2 ++ D := ⟨_, rfl⟩;have lY1 : Y1.length = ([73, 78, 83, 69, 82, 84, 32, 73, 78, 84, 79, 32] : List UInt8).length + (s.table : List UInt8).length := by rw [hY1, List.length_append]
    have lY2 : Y2.length = (Y1 : List UInt8).length + ([32, 86, 65, 76, 85, 69, 83, 32] : List UInt8).length := by rw [hY2, List.length_append]
    have lY3 : Y3.length = (Y2 : List UInt8).length + (D : List UInt8).length := by rw [hY3, List.length_append]
    simp only [List.length_cons, List.length_nil] at lY1 lY2 lY3;have hlt := word_len HMS.out.table;have a1 : ∀ w, (Op.stringOp .add ⟨#[73, 78, 83, 69, 82, 84, 32, 73, 78, 84, 79, 32]⟩ (str s.table)).run Tryz.prog w = .ok (.string (str Y1)) w := fun w => hY1 ▸ add_str [73, 78, 83, 69, 82, 84, 32, 73, 78, 84, 79, 32] s.table (by first | omega | (simp only [List.length_cons, List.length_nil]; omega)) w
    have a2 : ∀ w, (Op.stringOp .add (str Y1) ⟨#[32, 86, 65, 76, 85, 69, 83, 32]⟩).run Tryz.prog w = .ok (.string (str Y2)) w := fun w => hY2 ▸ add_str Y1 [32, 86, 65, 76, 85, 69, 83, 32] (by first | omega | (simp only [List.length_cons, List.length_nil]; omega)) w
    have a3 : ∀ w, (Op.stringOp .add (str Y2) (str D)).run Tryz.prog w = .ok (.string (str Y3)) w := fun w => hY3 ▸ add_str Y2 D (by first | omega | (simp only [List.length_cons, List.length_nil]; omega)) w
    have HB : Hid (Y3 = headS s) := LH (by rw [hY3, hY2, hY1, hD]; unfold headS; rw [if_neg hk1, if_pos hk2]; all_goals simp);have hl9 : Y3.length ≤ 2000000000 := by omega
    have HL9 := LH hl9;clear hl9 lY1 lY2 lY3 hlt hlen hD hY1 hY2 hY3 hk1 hk2;go_upto_region 7 with (fail);refine wp_region_eq_lit (vs := [(.pointer (some ⟨w.heap.size, 1, none⟩)), (.string (str s.table)), (.string (str Y1)), (.string (str Y2)), (.pointer (some ⟨w.heap.size, 3, none⟩)), (.slice A_u2 s.rows.length c_u2), (.string (str D)), (.string (str Y3)), (.string (str Y3))]) (by kernel_rfl) (by kernel_rfl) rfl rfl ?_ ?_
    ·refine ⟨?_, ?_, ?_, ?_, ?_, ?_, ?_, ?_, ?_, tv⟩
     all_goals intro ac wc hs hd hz hf hw K hK
     ·have e0 := EP 1 w.heap.size 0 (hf 1 rfl);clear hd hz hf hw;simp only [if_true, RL, e0];go_simp;exact hK _ _ rfl SR
     ·have e0 := EP 21 w.heap.size 1 (hw 0 rfl);have m0 := MC c1 hs tv;clear hd hz hf hw;simp only [if_true, RL, e0];go_simp;exact hK _ _ rfl SR
     ·have e0 := EV 22 (.string (str s.table)) (hw 1 rfl);clear hd hz hf hw;simp only [if_true, RL, e0];go_simp;exact hK _ _ rfl SR
     ·have e0 := EV 23 (.string (str Y1)) (hw 2 rfl);clear hd hz hf hw;simp only [if_true, RL, e0];go_simp;exact hK _ _ rfl SR
     ·have e0 := EP 1 w.heap.size 0 (hf 1 rfl);clear hd hz hf hw;simp only [if_true, RL, e0];go_simp;exact hK _ _ rfl SR
     ·have e0 := EP 25 w.heap.size 3 (hw 4 rfl);have m0 := MC c3 hs tv;clear hd hz hf hw;simp only [if_true, RL, e0];go_simp;exact hK _ _ rfl SR
     ·have e0 := EV 26 (.slice A_u2 s.rows.length c_u2) (hw 5 rfl);clear hd hz hf hw;simp only [if_true, RL, e0];go_simp;refine (gA _ hs).mono ?_;rintro e wd ⟨rfl, hsd⟩;exact hK _ _ rfl hsd
     ·have e0 := EV 24 (.string (str Y2)) (hw 3 rfl);have e1 := EV 27 (.string (str D)) (hw 6 rfl);clear hd hz hf hw;simp only [if_true, RL, e0, e1];go_simp;exact hK _ _ rfl SR
     ·have e0 := EV 28 (.string (str Y3)) (hw 7 rfl);clear hd hz hf hw;simp only [if_true, RL, e0];go_simp;exact hK _ _ rfl SR
    ·intro wR hsR;simp only [putAll, Act.put, LP];have HROW := LH (HROW.out.keep hsR tv);have HST := LH (stK.keep HST.out hsR);have HE := LH (HE.out.keepAll hsR);have HS := LH (HS.out.trans hsR);clear hsR;go_wp2;go_meet
     case rel => exact ⟨_, Y3, rfl, rfl, HB, HL9.out, HROW.out, HST.out, HE.out, HS.out⟩
   ·have ek2 := int_eq_f hk2;by_cases hk3 : s.kind = 3
    ·have ek3 := int_eq_t hk3;have hmi := HMS.out.sets hk3;simp only [maySets, Bool.and_eq_true, List.all_eq_true, decide_eq_true_eq] at hmi;have gA : ∀ W, Same (fun _ => True) W0 W → Calls Tryz.prog 48 #[.slice A_u3 s.sets.length c_u3, .func (.func 49) #[] #[]] W (TextP (joinT [44, 32] (s.sets.map showA)) W) := fun W hs => list_As showA 13107300 (by omega) s.sets _ W (HST.out.2.2.1.keepAll asK hs) (HE.out.keepAll hs) (by omega) (fun x hx => showA_len (hmi.2 x hx).1 (hmi.2 x hx).2 (HSI.out.sets x hx)) fun i hi u W' hu hE' => asnx_any s.sets[i] u W' (hmi.2 _ (List.getElem_mem hi)).1 (hmi.2 _ (List.getElem_mem hi)).2 (HSI.out.sets _ (List.getElem_mem hi)) hu hE'
     have hlen : (joinT [44, 32] (s.sets.map showA)).length ≤ 100000000 := by
      have h1 := join_len [44, 32] 13107300 (s.sets.map showA) fun x hx => by
       obtain ⟨y, hy, rfl⟩ := List.mem_map.1 hx;exact showA_len (hmi.2 y hy).1 (hmi.2 y hy).2 (HSI.out.sets y hy)
      rw [List.length_map] at h1;have h2 : s.sets.length * (13107300 + [44, 32].length) ≤ 6 * (13107300 + 2) := Nat.mul_le_mul hmi.1.2 (by simp);omega
     clear hmi;obtain ⟨D, hD⟩ : ∃ D, D = joinT [44, 32] (s.sets.map showA) := ⟨_, rfl⟩;rw [← hD] at gA hlen;obtain ⟨Y1, hY1⟩ : ∃ Y, Y = [85, 80, 68, 65, 84, 69, 32] ++ s.table := ⟨_, rfl⟩;obtain ⟨Y2, hY2⟩ : ∃ Y, Y = Y1 ++ [32, 83, 69, 84, 32] := ⟨_, rfl⟩;obtain ⟨Y3, hY3⟩ : ∃ Y, Y = Y2 ++ D := ⟨_, rfl⟩;have lY1 : Y1.length = ([85, 80, 68, 65, 84, 69, 32] : List UInt8).length + (s.table : List UInt8).length := by rw [hY1, List.length_append]
     have lY2 : Y2.length = (Y1 : List UInt8).length + ([32, 83, 69, 84, 32] : List UInt8).length := by rw [hY2, List.length_append]
     have lY3 : Y3.length = (Y2 : List UInt8).length + (D : List UInt8).length := by rw [hY3, List.length_append]
     simp only [List.length_cons, List.length_nil] at lY1 lY2 lY3;have hlt := word_len HMS.out.table;have a1 : ∀ w, (Op.stringOp .add ⟨#[85, 80, 68, 65, 84, 69, 32]⟩ (str s.table)).run Tryz.prog w = .ok (.string (str Y1)) w := fun w => hY1 ▸ add_str [85, 80, 68, 65, 84, 69, 32] s.table (by first | omega | (simp only [List.length_cons, List.length_nil]; omega)) w
     have a2 : ∀ w, (Op.stringOp .add (str Y1) ⟨#[32, 83, 69, 84, 32]⟩).run Tryz.prog w = .ok (.string (str Y2)) w := fun w => hY2 ▸ add_str Y1 [32, 83, 69, 84, 32] (by first | omega | (simp only [List.length_cons, List.length_nil]; omega)) w
     have a3 : ∀ w, (Op.stringOp .add (str Y2) (str D)).run Tryz.prog w = .ok (.string (str Y3)) w := fun w => hY3 ▸ add_str Y2 D (by first | omega | (simp only [List.length_cons, List.length_nil]; omega)) w
     have HB : Hid (Y3 = headS s) := LH (by rw [hY3, hY2, hY1, hD]; unfold headS; rw [if_neg hk1, if_neg hk2, if_pos hk3]; all_goals simp);have hl9 : Y3.length ≤ 2000000000 := by omega
     have HL9 := LH hl9;clear hl9 lY1 lY2 lY3 hlt hlen hD hY1 hY2 hY3 hk1 hk2 hk3;go_upto_region 9 with (fail);refine wp_region_eq_lit (vs := [(.pointer (some ⟨w.heap.size, 1, none⟩)), (.string (str s.table)), (.string (str Y1)), (.string (str Y2)), (.pointer (some ⟨w.heap.size, 4, none⟩)), (.slice A_u3 s.sets.length c_u3), (.string (str D)), (.string (str Y3)), (.string (str Y3))]) (by kernel_rfl) (by kernel_rfl) rfl rfl ?_ ?_
     ·refine ⟨?_, ?_, ?_, ?_, ?_, ?_, ?_, ?_, ?_, tv⟩
      all_goals intro ac wc hs hd hz hf hw K hK
      ·have e0 := EP 1 w.heap.size 0 (hf 1 rfl);clear hd hz hf hw;simp only [if_true, RL, e0];go_simp;exact hK _ _ rfl SR
      ·have e0 := EP 31 w.heap.size 1 (hw 0 rfl);have m0 := MC c1 hs tv;clear hd hz hf hw;simp only [if_true, RL, e0];go_simp;exact hK _ _ rfl SR
      ·have e0 := EV 32 (.string (str s.table)) (hw 1 rfl);clear hd hz hf hw;simp only [if_true, RL, e0];go_simp;exact hK _ _ rfl SR
      ·have e0 := EV 33 (.string (str Y1)) (hw 2 rfl);clear hd hz hf hw;simp only [if_true, RL, e0];go_simp;exact hK _ _ rfl SR
      ·have e0 := EP 1 w.heap.size 0 (hf 1 rfl);clear hd hz hf hw;simp only [if_true, RL, e0];go_simp;exact hK _ _ rfl SR
      ·have e0 := EP 35 w.heap.size 4 (hw 4 rfl);have m0 := MC c4 hs tv;clear hd hz hf hw;simp only [if_true, RL, e0];go_simp;exact hK _ _ rfl SR
      ·have e0 := EV 36 (.slice A_u3 s.sets.length c_u3) (hw 5 rfl);clear hd hz hf hw;simp only [if_true, RL, e0];go_simp;refine (gA _ hs).mono ?_;rintro e wd ⟨rfl, hsd⟩;exact hK _ _ rfl hsd
      ·have e0 := EV 34 (.string (str Y2)) (hw 3 rfl);have e1 := EV 37 (.string (str D)) (hw 6 rfl);clear hd hz hf hw;simp only [if_true, RL, e0, e1];go_simp;exact hK _ _ rfl SR
      ·have e0 := EV 38 (.string (str Y3)) (hw 7 rfl);clear hd hz hf hw;simp only [if_true, RL, e0];go_simp;exact hK _ _ rfl SR
     ·intro wR hsR;simp only [putAll, Act.put, LP];have HROW := LH (HROW.out.keep hsR tv);have HST := LH (stK.keep HST.out hsR);have HE := LH (HE.out.keepAll hsR);have HS := LH (HS.out.trans hsR);clear hsR;go_wp2;go_meet
      case rel => exact ⟨_, Y3, rfl, rfl, HB, HL9.out, HROW.out, HST.out, HE.out, HS.out⟩
    ·have ek3 := int_eq_f hk3;have hlt := word_len HMS.out.table;have HB : Hid ([68, 69, 76, 69, 84, 69, 32, 70, 82, 79, 77, 32] ++ s.table = headS s) := LH (by unfold headS; rw [if_neg hk1, if_neg hk2, if_neg hk3]);have a1 : ∀ w, (Op.stringOp .add ⟨#[68, 69, 76, 69, 84, 69, 32, 70, 82, 79, 77, 32]⟩ (str s.table)).run Tryz.prog w = .ok (.string (str ([68, 69, 76, 69, 84, 69, 32, 70, 82, 79, 77, 32] ++ s.table))) w := fun w => add_str [68, 69, 76, 69, 84, 69, 32, 70, 82, 79, 77, 32] s.table (by simp; omega) w
     have HL9 : Hid (([68, 69, 76, 69, 84, 69, 32, 70, 82, 79, 77, 32] ++ s.table).length ≤ 2000000000) := LH (by rw [List.length_append]; simp only [List.length_cons, List.length_nil]; omega);generalize [68, 69, 76, 69, 84, 69, 32, 70, 82, 79, 77, 32] ++ s.table = Y at a1 HB HL9;clear hk1 hk2 hk3 hlt;go_wp2;go_meet
     case rel => exact ⟨_, Y, rfl, rfl, HB, HL9.out, HROW.out, HST.out, HE.out, HS.out⟩
 case rest =>
  clear HROW HST HE HS c0 c1 c2 c3 c4 c5 c6 c7 c8 c9 c10 c11 c12 c13 c14;obtain ⟨W0, H0, rfl, rfl, HH0, hl0, hrow, hst, he, hs⟩ := hcut;have HROW := LH hrow;have HST := LH hst;have HE := LH he;have HS := LH hs;have c0 := HROW.out.cell 0;have c1 := HROW.out.cell 1;have c2 := HROW.out.cell 2;have c3 := HROW.out.cell 3;have c4 := HROW.out.cell 4;have c5 := HROW.out.cell 5;have c6 := HROW.out.cell 6;have c7 := HROW.out.cell 7;have c8 := HROW.out.cell 8;have c9 := HROW.out.cell 9;have c10 := HROW.out.cell 10;have c11 := HROW.out.cell 11;have c12 := HROW.out.cell 12;have c13 := HROW.out.cell 13;have c14 := HROW.out.cell 14;simp only [LG] at c0 c1 c2 c3 c4 c5 c6 c7 c8 c9 c10 c11 c12 c13 c14;clear hrow hst he hs;go_upto_if 40 with (fail);go_cut [3] from 39 to 46 (fun v wx => ∃ (W : World) (H : List UInt8), W = wx ∧ v = .string (str H) ∧ Hid (H = headS s ++ p1S s) ∧ H.length ≤ 2020000000 ∧ Row W w.heap.size 44 [.int .i64 s.kind, .string (str s.table), .slice A_u1 s.items.length c_u1, .slice A_u2 s.rows.length c_u2, .slice A_u3 s.sets.length c_u3, .bool s.filt, .int .i64 s.cond.kind, .string (str s.cond.s), .int .i64 s.cond.v.kind, .int .i64 s.cond.v.n, .string (str s.cond.v.s), .slice A_u4 s.cond.args.length c_u4, .string (str s.order), .bool s.down, .int .i64 s.limit] ∧ StR W (fun _ => True) (⟨.slice A_u1 s.items.length c_u1, .slice A_u2 s.rows.length c_u2, .slice A_u3 s.sets.length c_u3, .slice A_u4 s.cond.args.length c_u4⟩ : SU) s ∧ EnvT W ∧ Same (fun _ => True) w W)
  case first =>
   cases hft : s.filt
   ·have HB : Hid (H0 = headS s ++ p1S s) := LH (by unfold p1S; rw [HH0.out, hft]; simp);have HL9 : Hid (H0.length ≤ 2020000000) := LH (by omega);clear hft;go_wp2;go_meet
    case rel => exact ⟨_, H0, rfl, rfl, HB, HL9.out, HROW.out, HST.out, HE.out, HS.out⟩
   ·have ht := text_any s.cond 16 (.slice A_u4 s.cond.args.length c_u4) W0 (by omega) (HMS.out.cond hft) HSI.out.cond HST.out.2.2.2 HE.out;have hlen := showE_most (HMS.out.cond hft) (by omega) HSI.out.cond;obtain ⟨D, hD⟩ : ∃ D, D = showE s.cond := ⟨_, rfl⟩;rw [← hD] at ht hlen;obtain ⟨Y1, hY1⟩ : ∃ Y, Y = [32, 87, 72, 69, 82, 69, 32] ++ D := ⟨_, rfl⟩;obtain ⟨Y2, hY2⟩ : ∃ Y, Y = H0 ++ Y1 := ⟨_, rfl⟩;have l1 : Y1.length = 7 + D.length := by rw [hY1, List.length_append]; rfl
    have l2 : Y2.length = H0.length + Y1.length := by rw [hY2, List.length_append]
    have a1 : ∀ w, (Op.stringOp .add ⟨#[32, 87, 72, 69, 82, 69, 32]⟩ (str D)).run Tryz.prog w = .ok (.string (str Y1)) w := fun w => hY1 ▸ add_str [32, 87, 72, 69, 82, 69, 32] D (by simp only [List.length_cons, List.length_nil]; omega) w
    have a2 : ∀ w, (Op.stringOp .add (str H0) (str Y1)).run Tryz.prog w = .ok (.string (str Y2)) w := fun w => hY2 ▸ add_str H0 Y1 (by omega) w
    have HB : Hid (Y2 = headS s ++ p1S s) := LH (by unfold p1S; rw [hY2, hY1, HH0.out, hD, hft]; rfl);have HL9 : Hid (Y2.length ≤ 2020000000) := LH (by omega);clear hft hlen hD hY1 hY2 l1 l2;go_wp2_with (go_at_call 47; refine stopAt ?_);unfold Hid;refine ht.mono ?_;rintro e w2 ⟨rfl, hS⟩;have HROW := LH (HROW.out.keep hS tv);have HST := LH (stK.keep HST.out hS);have HE := LH (HE.out.keepAll hS);have HS := LH (HS.out.trans hS);clear hS;clear ht;go_wp2;go_meet
    case rel => exact ⟨_, Y2, rfl, rfl, HB, HL9.out, HROW.out, HST.out, HE.out, HS.out⟩
  case rest =>
   clear HROW HST HE HS c0 c1 c2 c3 c4 c5 c6 c7 c8 c9 c10 c11 c12 c13 c14;obtain ⟨W1, H1, rfl, rfl, HH1, hl1, hrow, hst, he, hs⟩ := hcut;have HROW := LH hrow;have HST := LH hst;have HE := LH he;have HS := LH hs;have c0 := HROW.out.cell 0;have c1 := HROW.out.cell 1;have c2 := HROW.out.cell 2;have c3 := HROW.out.cell 3;have c4 := HROW.out.cell 4;have c5 := HROW.out.cell 5;have c6 := HROW.out.cell 6;have c7 := HROW.out.cell 7;have c8 := HROW.out.cell 8;have c9 := HROW.out.cell 9;have c10 := HROW.out.cell 10;have c11 := HROW.out.cell 11;have c12 := HROW.out.cell 12;have c13 := HROW.out.cell 13;have c14 := HROW.out.cell 14;simp only [LG] at c0 c1 c2 c3 c4 c5 c6 c7 c8 c9 c10 c11 c12 c13 c14;clear hrow hst he hs;go_upto_if 49 with (fail);go_cut [3] from 47 to 54 (fun v wx => ∃ (W : World) (H : List UInt8), W = wx ∧ v = .string (str H) ∧ Hid (H = headS s ++ p1S s ++ p2S s) ∧ H.length ≤ 2020000100 ∧ Row W w.heap.size 44 [.int .i64 s.kind, .string (str s.table), .slice A_u1 s.items.length c_u1, .slice A_u2 s.rows.length c_u2, .slice A_u3 s.sets.length c_u3, .bool s.filt, .int .i64 s.cond.kind, .string (str s.cond.s), .int .i64 s.cond.v.kind, .int .i64 s.cond.v.n, .string (str s.cond.v.s), .slice A_u4 s.cond.args.length c_u4, .string (str s.order), .bool s.down, .int .i64 s.limit] ∧ StR W (fun _ => True) (⟨.slice A_u1 s.items.length c_u1, .slice A_u2 s.rows.length c_u2, .slice A_u3 s.sets.length c_u3, .slice A_u4 s.cond.args.length c_u4⟩ : SU) s ∧ EnvT W ∧ Same (fun _ => True) w W)
   case first =>
    by_cases ho : s.order = []
    ·rw [show (!s.order.isEmpty) = false from by rw [ho]; rfl];have HB : Hid (H1 = headS s ++ p1S s ++ p2S s) := LH (by unfold p2S; rw [HH1.out, if_pos ho]; simp);have HL9 : Hid (H1.length ≤ 2020000100) := LH (by omega);clear ho;go_wp2;go_meet
     case rel => exact ⟨_, H1, rfl, rfl, HB, HL9.out, HROW.out, HST.out, HE.out, HS.out⟩
    ·rw [show (!s.order.isEmpty) = true from by
      cases h : s.order with
      | nil => exact absurd h ho
      | cons a b => rfl]
     have hlo := HMS.out.order;obtain ⟨Y1, hY1⟩ : ∃ Y, Y = [32, 79, 82, 68, 69, 82, 32, 66, 89, 32] ++ s.order := ⟨_, rfl⟩;obtain ⟨Y2, hY2⟩ : ∃ Y, Y = H1 ++ Y1 := ⟨_, rfl⟩;have l1 : Y1.length = 10 + s.order.length := by rw [hY1, List.length_append]; rfl
     have l2 : Y2.length = H1.length + Y1.length := by rw [hY2, List.length_append]
     have a1 : ∀ w, (Op.stringOp .add ⟨#[32, 79, 82, 68, 69, 82, 32, 66, 89, 32]⟩ (str s.order)).run Tryz.prog w = .ok (.string (str Y1)) w := fun w => hY1 ▸ add_str [32, 79, 82, 68, 69, 82, 32, 66, 89, 32] s.order (by simp only [List.length_cons, List.length_nil]; omega) w
     have a2 : ∀ w, (Op.stringOp .add (str H1) (str Y1)).run Tryz.prog w = .ok (.string (str Y2)) w := fun w => hY2 ▸ add_str H1 Y1 (by omega) w
     have HB : Hid (Y2 = headS s ++ p1S s ++ p2S s) := LH (by unfold p2S; rw [hY2, hY1, HH1.out, if_neg ho]);have HL9 : Hid (Y2.length ≤ 2020000100) := LH (by omega);clear hlo hY1 hY2 l1 l2;go_wp2;go_meet
     case rel => exact ⟨_, Y2, rfl, rfl, HB, HL9.out, HROW.out, HST.out, HE.out, HS.out⟩
   case rest =>
    clear HROW HST HE HS c0 c1 c2 c3 c4 c5 c6 c7 c8 c9 c10 c11 c12 c13 c14;obtain ⟨W2, H2, rfl, rfl, HH2, hl2, hrow, hst, he, hs⟩ := hcut;have HROW := LH hrow;have HST := LH hst;have HE := LH he;have HS := LH hs;have c0 := HROW.out.cell 0;have c1 := HROW.out.cell 1;have c2 := HROW.out.cell 2;have c3 := HROW.out.cell 3;have c4 := HROW.out.cell 4;have c5 := HROW.out.cell 5;have c6 := HROW.out.cell 6;have c7 := HROW.out.cell 7;have c8 := HROW.out.cell 8;have c9 := HROW.out.cell 9;have c10 := HROW.out.cell 10;have c11 := HROW.out.cell 11;have c12 := HROW.out.cell 12;have c13 := HROW.out.cell 13;have c14 := HROW.out.cell 14;simp only [LG] at c0 c1 c2 c3 c4 c5 c6 c7 c8 c9 c10 c11 c12 c13 c14;clear hrow hst he hs;go_upto_if 56 with (fail);go_cut [3] from 55 to 58 (fun v wx => ∃ (W : World) (H : List UInt8), W = wx ∧ v = .string (str H) ∧ Hid (H = headS s ++ p1S s ++ p2S s ++ p3S s) ∧ H.length ≤ 2020000200 ∧ Row W w.heap.size 44 [.int .i64 s.kind, .string (str s.table), .slice A_u1 s.items.length c_u1, .slice A_u2 s.rows.length c_u2, .slice A_u3 s.sets.length c_u3, .bool s.filt, .int .i64 s.cond.kind, .string (str s.cond.s), .int .i64 s.cond.v.kind, .int .i64 s.cond.v.n, .string (str s.cond.v.s), .slice A_u4 s.cond.args.length c_u4, .string (str s.order), .bool s.down, .int .i64 s.limit] ∧ StR W (fun _ => True) (⟨.slice A_u1 s.items.length c_u1, .slice A_u2 s.rows.length c_u2, .slice A_u3 s.sets.length c_u3, .slice A_u4 s.cond.args.length c_u4⟩ : SU) s ∧ EnvT W ∧ Same (fun _ => True) w W)
    case first =>
     cases hdn : s.down
     ·have HB : Hid (H2 = headS s ++ p1S s ++ p2S s ++ p3S s) := LH (by unfold p3S; rw [HH2.out, hdn]; simp);have HL9 : Hid (H2.length ≤ 2020000200) := LH (by omega);clear hdn;go_wp2;go_meet
      case rel => exact ⟨_, H2, rfl, rfl, HB, HL9.out, HROW.out, HST.out, HE.out, HS.out⟩
     ·obtain ⟨Y2, hY2⟩ : ∃ Y, Y = H2 ++ [32, 68, 69, 83, 67] := ⟨_, rfl⟩;have l2 : Y2.length = H2.length + 5 := by rw [hY2, List.length_append]; rfl
      have a2 : ∀ w, (Op.stringOp .add (str H2) ⟨#[32, 68, 69, 83, 67]⟩).run Tryz.prog w = .ok (.string (str Y2)) w := fun w => hY2 ▸ add_str H2 [32, 68, 69, 83, 67] (by simp only [List.length_cons, List.length_nil]; omega) w
      have HB : Hid (Y2 = headS s ++ p1S s ++ p2S s ++ p3S s) := LH (by unfold p3S; rw [hY2, HH2.out, hdn]; rfl);have HL9 : Hid (Y2.length ≤ 2020000200) := LH (by omega);clear hdn hY2 l2;go_wp2;go_meet
      case rel => exact ⟨_, Y2, rfl, rfl, HB, HL9.out, HROW.out, HST.out, HE.out, HS.out⟩
    case rest =>
     clear HROW HST HE HS c0 c1 c2 c3 c4 c5 c6 c7 c8 c9 c10 c11 c12 c13 c14;obtain ⟨W3, H3, rfl, rfl, HH3, hl3, hrow, hst, he, hs⟩ := hcut;have HROW := LH hrow;have HST := LH hst;have HE := LH he;have HS := LH hs;have c0 := HROW.out.cell 0;have c1 := HROW.out.cell 1;have c2 := HROW.out.cell 2;have c3 := HROW.out.cell 3;have c4 := HROW.out.cell 4;have c5 := HROW.out.cell 5;have c6 := HROW.out.cell 6;have c7 := HROW.out.cell 7;have c8 := HROW.out.cell 8;have c9 := HROW.out.cell 9;have c10 := HROW.out.cell 10;have c11 := HROW.out.cell 11;have c12 := HROW.out.cell 12;have c13 := HROW.out.cell 13;have c14 := HROW.out.cell 14;simp only [LG] at c0 c1 c2 c3 c4 c5 c6 c7 c8 c9 c10 c11 c12 c13 c14;clear hrow hst he hs;by_cases hk : s.kind = 1
     ·have ek := int_eq_t hk;by_cases hl : 0 ≤ s.limit
      ·have el : decide (0 ≤ s.limit) = true := decide_eq_true hl;have hi64 := i64_I HSI.out.limit;have hlen := intL_len hi64;obtain ⟨D, hD⟩ : ∃ D, D = intL s.limit := ⟨_, rfl⟩;have hf := fmt_any s.limit W3 hi64 HE.out;rw [← hD] at hf hlen;obtain ⟨Y1, hY1⟩ : ∃ Y, Y = [32, 76, 73, 77, 73, 84, 32] ++ D := ⟨_, rfl⟩;obtain ⟨Y2, hY2⟩ : ∃ Y, Y = H3 ++ Y1 := ⟨_, rfl⟩;have l1 : Y1.length = 7 + D.length := by rw [hY1, List.length_append]; rfl
       have a1 : ∀ w, (Op.stringOp .add ⟨#[32, 76, 73, 77, 73, 84, 32]⟩ (str D)).run Tryz.prog w = .ok (.string (str Y1)) w := fun w => hY1 ▸ add_str [32, 76, 73, 77, 73, 84, 32] D (by simp only [List.length_cons, List.length_nil]; omega) w
       have a2 : ∀ w, (Op.stringOp .add (str H3) (str Y1)).run Tryz.prog w = .ok (.string (str Y2)) w := fun w => hY2 ▸ add_str H3 Y1 (by omega) w
       have HB : Hid (Y2 = showS s) := LH (by rw [showS_eq]; unfold p4S; rw [hY2, hY1, HH3.out, hD, if_pos ⟨hk, hl⟩]);clear hk hl hi64 hlen hD hY1 hY2 l1;go_wp2_with (go_at_call 27; refine stopAt ?_);unfold Hid;refine hf.mono ?_;rintro e w2 ⟨rfl, hS⟩;have HS := LH (HS.out.trans hS);clear hS hf;go_wp2;go_ret;exact ⟨ret_str HB.out, HS.out⟩
      ·have el : decide (0 ≤ s.limit) = false := decide_eq_false hl;have HB : Hid (H3 = showS s) := LH (by rw [showS_eq]; unfold p4S; rw [HH3.out, if_neg (fun h => hl h.2)]; simp);clear hk hl;go_wp2;go_ret;exact ⟨ret_str HB.out, HS.out⟩
     ·have ek := int_eq_f hk;have HB : Hid (H3 = showS s) := LH (by rw [showS_eq]; unfold p4S; rw [HH3.out, if_neg (fun h => hk h.1)]; simp);clear hk;go_wp2;go_ret;exact ⟨ret_str HB.out, HS.out⟩
theorem items_len {l : List Itm} (h : mayIs l = true) (hI : ∀ x ∈ l, ExI x.e) : (joinT [44, 32] (l.map showI)).length ≤ 100000000 := by
 simp only [mayIs, Bool.and_eq_true, List.all_eq_true, decide_eq_true_eq] at h
 have h1 := join_len [44, 32] 13107300 (l.map showI) fun x hx => by
  obtain ⟨y, hy, rfl⟩ := List.mem_map.1 hx;exact showI_len (h.1.1 y hy) (hI y hy)
 rw [List.length_map] at h1;have h2 : l.length * (13107300 + [44, 32].length) ≤ 6 * (13107300 + 2) := Nat.mul_le_mul h.2 (by simp);omega
theorem rows_len {l : List (List Ex)} (h : mayRows l = true) (hI : ∀ x ∈ l, ∀ e ∈ x, ExI e) : (joinT [44, 32] (l.map showR)).length ≤ 1300000000 := by
 simp only [mayRows, Bool.and_eq_true, List.all_eq_true, decide_eq_true_eq] at h
 have h1 := join_len [44, 32] 78643400 (l.map showR) fun x hx => by
  obtain ⟨y, hy, rfl⟩ := List.mem_map.1 hx;exact showR_len (h.1.1 y hy) (hI y hy)
 rw [List.length_map] at h1;have h2 : l.length * (78643400 + [44, 32].length) ≤ 16 * (78643400 + 2) := Nat.mul_le_mul h.2 (by simp);omega
theorem sets_len {l : List Asn} (h : maySets l = true) (hI : ∀ x ∈ l, ExI x.e) : (joinT [44, 32] (l.map showA)).length ≤ 100000000 := by
 simp only [maySets, Bool.and_eq_true, List.all_eq_true, decide_eq_true_eq] at h
 have h1 := join_len [44, 32] 13107300 (l.map showA) fun x hx => by
  obtain ⟨y, hy, rfl⟩ := List.mem_map.1 hx;exact showA_len (h.2 y hy).1 (h.2 y hy).2 (hI y hy)
 rw [List.length_map] at h1;have h2 : l.length * (13107300 + [44, 32].length) ≤ 6 * (13107300 + 2) := Nat.mul_le_mul h.1.2 (by simp);omega
theorem showS_len {s : Stm} (hm : mayS s = true) (hI : StI s) : (showS s).length ≤ 1999999999 := by
 have h := MayS.of hm;have ht := word_len h.table;have ho := h.order
 have h0 : (headS s).length ≤ 1300000100 := by
  unfold headS;by_cases h1 : s.kind = 1
  ·rw [if_pos h1];have := items_len (h.items h1) hI.items;simp only [List.length_append, List.length_cons, List.length_nil]; omega
  rw [if_neg h1];by_cases h2 : s.kind = 2
  ·rw [if_pos h2];have := rows_len (h.rows h2) hI.rows;simp only [List.length_append, List.length_cons, List.length_nil]; omega
  rw [if_neg h2];by_cases h3 : s.kind = 3
  ·rw [if_pos h3];have := sets_len (h.sets h3) hI.sets;simp only [List.length_append, List.length_cons, List.length_nil]; omega
  ·rw [if_neg h3];simp only [List.length_append, List.length_cons, List.length_nil]; omega
 have h1 : (p1S s).length ≤ 13107300 := by
  unfold p1S;cases hf : s.filt
  ·simp
  ·have := showE_most (h.cond hf) (by omega) hI.cond;simp only [if_true, List.length_append, List.length_cons, List.length_nil]; omega
 have h2 : (p2S s).length ≤ 100 := by
  unfold p2S;split
  ·simp
  ·simp only [List.length_append, List.length_cons, List.length_nil]; omega
 have h3 : (p3S s).length ≤ 10 := by unfold p3S; split <;> simp
 have h4 : (p4S s).length ≤ 50 := by
  unfold p4S;split
  ·have := intL_len (i64_I hI.limit);simp only [List.length_append, List.length_cons, List.length_nil]; omega
  ·simp
 rw [showS_eq];simp only [List.length_append];omega
def PrintP (r : List UInt8 × Nat) (w : World) (e : Ending) (w' : World) : Prop := e = .returned (.tuple #[.string (str r.1), .int .i64 (r.2 : Int)]) ∧ Same (fun _ => True) w w'
theorem ret_pr {a b : List UInt8} {n m : Nat} (h : a = b) (k : n = m) : Ending.returned (.tuple #[.string (str a), .int .i64 (n : Int)]) = .returned (.tuple #[.string (str b), .int .i64 (m : Int)]) := by rw [h, k]
set_option maxRecDepth 100000 in
set_option maxHeartbeats 16000000 in
theorem print_any (l : LotM) (u : Value) (w : World) (hI : LotI l) (h : LtR w (fun _ => True) u l) (hE : EnvT w) : Calls Tryz.prog 16 #[ltV u l] w (PrintP (printF l) w) := by
 obtain ⟨A, c, rfl, hc1, hc2⟩ := (show LsR stCsP 15 StR _ _ u l.stmts from h).form;unfold maxLen at hc2;obtain ⟨X, hX⟩ : ∃ X, X = printF l := ⟨_, rfl⟩;rw [← hX];have HX := LH hX;have HLI := LH hI;have HI64 := LH (i64_I hI.n);have hA := (Same.refl (fun _ => True) w).alloc (.cells #[.int .i64 l.mode, .int .i64 l.n, .slice A l.stmts.length c] 25);have hrow := Row.new w 25 [.int .i64 l.mode, .int .i64 l.n, .slice A l.stmts.length c];have hl : LsR stCsP 15 StR (w.alloc (.cells #[.int .i64 l.mode, .int .i64 l.n, .slice A l.stmts.length c] 25)) (fun _ => True) (.slice A l.stmts.length c) l.stmts := LsR.keepAll stK h hA;have hE1 := hE.keepAll hA;clear hX h hE hI;go_enter Tryz.func16, Tryz.ntmps16;go_upto_region 1 with (fail);revert hA hrow hl hE1;generalize w.alloc _ = w1;intro hA hrow hl hE1;have HL := LH hl;have HE := LH hE1;have HS := LH hA;obtain ⟨c0, c1, c2⟩ := CN3 hrow;clear hA hrow hl hE1;go_wp2_with (go_at_call 18; refine stopAt ?_);unfold Hid;refine (may_any l (.slice A l.stmts.length c) w1 HL.out HE.out.max).mono ?_;rintro e W2 ⟨rfl, hS⟩;have c0 := hS.cell (p := ⟨w.heap.size, 0, none⟩) tv c0;have c1 := hS.cell (p := ⟨w.heap.size, 1, none⟩) tv c1;have c2 := hS.cell (p := ⟨w.heap.size, 2, none⟩) tv c2;have HL := LH (HL.out.keepAll stK hS);have HE := LH (HE.out.keepAll hS);have HS := LH (HS.out.trans hS);clear hS;cases hmy : mayLot l
 ·have HB : Hid ([] = X.1 ∧ 9 = X.2) := LH (by rw [HX.out]; unfold printF; rw [hmy, if_neg (by simp)]; exact ⟨rfl, rfl⟩);clear hmy;go_wp2;go_ret2;exact ⟨ret_pr HB.out.1 HB.out.2, HS.out⟩
 ·have HMY := LH hmy
  have HMA : Hid ((∀ s ∈ l.stmts, mayS s = true) ∧ l.stmts.length ≤ 8) := LH (by
   have h := hmy;simp only [mayLot, Bool.and_eq_true, List.all_eq_true, decide_eq_true_eq] at h
   exact ⟨h.2, h.1.2⟩)
  clear hmy;go_wp2;go_loopw [4, 15] (fun v i wr => ∃ q : Nat, i = .int .i64 (q : Int) ∧ q ≤ l.stmts.length ∧ OwnR sC 1 9 wr W2.heap.size v ((l.stmts.take q).map showS) ∧ Same (fun _ => True) W2 wr) (fun _ i _ => l.stmts.length - (intOf i).toNat)
  case atStart => exact ⟨0, rfl, Nat.zero_le _, OwnR.nil _ _, Same.refl _ _⟩
  case round =>
   obtain ⟨q, rfl, hq, hov, hS⟩ := hrel;obtain ⟨Av, cv, rfl, hv1, hv2⟩ := hov.form;have hln : ((l.stmts.take q).map showS).length = q := by rw [List.length_map, List.length_take]; omega
   rw [hln] at hov hv1 ⊢;unfold maxLen at hv2;have x1 : (0 : Int) ≤ (q : Int) := by omega
   have c0 := hS.cell (p := ⟨w.heap.size, 0, none⟩) tv c0;have c1 := hS.cell (p := ⟨w.heap.size, 1, none⟩) tv c1;have HSq := LH hS;have HE2 := LH (HE.out.keepAll hS);have HOV := LH hov;clear hov;by_cases hql : q < l.stmts.length
   ·have x2 : (q : Int) < (l.stmts.length : Int) := by omega
    obtain ⟨ad, u, rfl, hok, hcl⟩ := LsR.at_ (HL.out.keepAll stK hS) stCsP_len hql;obtain ⟨ui, ur, us, uc⟩ := u;obtain ⟨A_u1, c_u1, q1, -⟩ := LsR.form (show LsR itCs 7 itOk _ _ ui l.stmts[q].items from hok.1);subst q1;obtain ⟨A_u2, c_u2, q2, -⟩ := LsR.form (show LsR rwCs 1 rwOk _ _ ur l.stmts[q].rows from hok.2.1);subst q2;obtain ⟨A_u3, c_u3, q3, -⟩ := LsR.form (show LsR asCs 7 asOk _ _ us l.stmts[q].sets from hok.2.2.1);subst q3;obtain ⟨A_u4, c_u4, q4, -⟩ := (show ExR _ _ uc l.stmts[q].cond from hok.2.2.2).toL.form;subst q4;have d0 := hcl 0 (by omega);rw [add_zero] at d0;have d1 := hcl 1 (by omega);rw [addr_add _ _ (by omega)] at d1;have d2 := hcl 2 (by omega);rw [addr_add _ _ (by omega)] at d2;have d3 := hcl 3 (by omega);rw [addr_add _ _ (by omega)] at d3;have d4 := hcl 4 (by omega);rw [addr_add _ _ (by omega)] at d4;have d5 := hcl 5 (by omega);rw [addr_add _ _ (by omega)] at d5;have d6 := hcl 6 (by omega);rw [addr_add _ _ (by omega)] at d6;have d7 := hcl 7 (by omega);rw [addr_add _ _ (by omega)] at d7;have d8 := hcl 8 (by omega);rw [addr_add _ _ (by omega)] at d8;have d9 := hcl 9 (by omega);rw [addr_add _ _ (by omega)] at d9;have d10 := hcl 10 (by omega);rw [addr_add _ _ (by omega)] at d10;have d11 := hcl 11 (by omega);rw [addr_add _ _ (by omega)] at d11;have d12 := hcl 12 (by omega);rw [addr_add _ _ (by omega)] at d12;have d13 := hcl 13 (by omega);rw [addr_add _ _ (by omega)] at d13;have d14 := hcl 14 (by omega);rw [addr_add _ _ (by omega)] at d14;simp only [stCsP, stCs, LG] at d0 d1 d2 d3 d4 d5 d6 d7 d8 d9 d10 d11 d12 d13 d14;have HOK := LH hok;clear hok hS hcl;go_wp2_with (go_at_call 25; refine stopAt ?_);unfold Hid;refine (stmtx_any l.stmts[q] _ _ (HMA.out.1 _ (List.getElem_mem hql)) (HLI.out.stmts _ (List.getElem_mem hql)) (stK.keep HOK.out ((Same.refl (fun _ => True) wr).alloc _)) (HE2.out.keepAll ((Same.refl (fun _ => True) wr).alloc _))).mono ?_;rintro e w5 ⟨rfl, hS⟩;have HS5 := LH ((HSq.out.trans ((Same.refl (fun _ => True) wr).alloc _)).trans hS);have HOV5 := LH (HOV.out.keepAll (((Same.refl (fun _ => True) wr).alloc _).trans hS));clear hS c0 c1;go_wp2_with (at_builtin; refine stopAt ?_);unfold Hid;refine wpList_appR1 TSs (fun _ => rfl) (fun x u hu => by simp only [sC, List.mem_cons, List.not_mem_nil, or_false] at hu; rw [hu]; rfl) rfl (.tmp 19) (.tmp 22) rfl (f := sC) (B := W2.heap.size) (v := .slice Av q cv) (l := (l.stmts.take q).map showS) (c := showS l.stmts[q]) rfl rfl rfl HOV5.out HS5.out.size (by rw [hln]; simp only [maxLen]; omega) (by rw [hln]; have := HMA.out.2; omega) ?_;intro v' w6 hO hS6
    have hO : OwnR sC 1 9 w6 W2.heap.size v' ((l.stmts.take (q + 1)).map showS) := by
     rw [List.take_add_one, List.getElem?_eq_getElem hql, List.map_append];exact hO
    obtain ⟨A9, c9, rfl, -, -⟩ := hO.form;have hln9 : ((l.stmts.take (q + 1)).map showS).length = q + 1 := by rw [List.length_map, List.length_take]; omega
    rw [hln9] at hO ⊢;have HO9 := LH hO;have HS9 := LH (HS5.out.trans' hS6 fun i hi _ => hi);clear hO hS6 hln9;go_wp2;go_roundw
    case rel => exact ⟨q + 1, by go_num, by omega, HO9.out, HS9.out⟩
    case measure => simp [intOf]; omega
   ·obtain rfl : q = l.stmts.length := by omega
    have HOV : Hid (OwnR sC 1 9 wr W2.heap.size (.slice Av l.stmts.length cv) (l.stmts.map showS)) := LH (by have := HOV.out; rw [List.take_length] at this; exact this);clear hln
    have hj : (joinT [59, 32] (l.stmts.map showS)).length ≤ 100000000000 := by
     have h1 := join_len [59, 32] 1999999999 (l.stmts.map showS) fun x hx => by
      obtain ⟨y, hy, rfl⟩ := List.mem_map.1 hx;exact showS_len (HMA.out.1 y hy) (HLI.out.stmts y hy)
     rw [List.length_map] at h1;have h2 : l.stmts.length * (1999999999 + [59, 32].length) ≤ 8 * (1999999999 + 2) := Nat.mul_le_mul HMA.out.2 (by simp);omega
    have HJ := LH hj;clear hj hS;go_wp2_with (go_at_call 26; refine stopAt ?_);unfold Hid;refine (join_any [59, 32] (l.stmts.map showS) _ W2.heap.size wr HOV.out (by have := HMA.out.2; rw [List.length_map]; omega) HJ.out).mono ?_;rintro e w5 ⟨rfl, hS⟩;have c0 := hS.cell (p := ⟨w.heap.size, 0, none⟩) tv c0;have c1 := hS.cell (p := ⟨w.heap.size, 1, none⟩) tv c1;have HS := LH ((HS.out.trans HSq.out).trans hS);have HE := LH (HE2.out.keepAll hS);obtain ⟨T0, hT0⟩ : ∃ T, T = joinT [59, 32] (l.stmts.map showS) := ⟨_, rfl⟩;rw [← hT0] at HJ ⊢;have HT0 := LH hT0;have HL0 := LH HJ.out;clear hS hT0;go_wp2_with (go_at_call 27; refine stopAt ?_);unfold Hid;refine (fmt_any l.n _ HI64.out HE.out).mono ?_;rintro e w8 ⟨rfl, hS⟩;have c0 := hS.cell (p := ⟨w.heap.size, 0, none⟩) tv c0;have HS := LH (HS.out.trans hS);have hld := intL_len HI64.out;obtain ⟨D, hD⟩ : ∃ D, D = intL l.n := ⟨_, rfl⟩;rw [← hD] at hld ⊢;have HD := LH hD;have hl0 := HL0.out;clear hS hD;by_cases hk1 : l.mode = 1
    ·have ek1 := int_eq_t hk1;obtain ⟨Y1, hY1⟩ : ∃ Y, Y = [32, 65, 83, 32, 79, 70, 32, 83, 89, 83, 84, 69, 77, 32, 84, 73, 77, 69, 32] ++ D := ⟨_, rfl⟩;obtain ⟨Y2, hY2⟩ : ∃ Y, Y = T0 ++ Y1 := ⟨_, rfl⟩;have l1 : Y1.length = ([32, 65, 83, 32, 79, 70, 32, 83, 89, 83, 84, 69, 77, 32, 84, 73, 77, 69, 32] : List UInt8).length + D.length := by rw [hY1, List.length_append]
     simp only [List.length_cons, List.length_nil] at l1;have a1 : ∀ w, (Op.stringOp .add ⟨#[32, 65, 83, 32, 79, 70, 32, 83, 89, 83, 84, 69, 77, 32, 84, 73, 77, 69, 32]⟩ (str D)).run Tryz.prog w = .ok (.string (str Y1)) w := fun w => hY1 ▸ add_str [32, 65, 83, 32, 79, 70, 32, 83, 89, 83, 84, 69, 77, 32, 84, 73, 77, 69, 32] D (by simp only [List.length_cons, List.length_nil]; omega) w
     have a2 : ∀ w, (Op.stringOp .add (str T0) (str Y1)).run Tryz.prog w = .ok (.string (str Y2)) w := fun w => hY2 ▸ add_str T0 Y1 (by omega) w
     have HT : Hid (Y2 = lotT l) := LH (by unfold lotT modeT; rw [hY2, hY1, HT0.out, HD.out, if_pos hk1]);clear l1 hY1 hY2;clear hk1 hl0 hld;by_cases hlen : Y2.length ≤ 2000
     ·have el : decide ((2000 : Int) < ((str Y2).size : Int)) = false := by rw [str_size]; exact decide_eq_false (by omega)
      have el2 : decide ((2000 : Int) < (Y2.length : Int)) = false := decide_eq_false (by omega);have HB : Hid (Y2 = X.1 ∧ 0 = X.2) := LH (by rw [HX.out]; unfold printF; rw [← HT.out, if_pos ⟨HMY.out, hlen⟩]; exact ⟨rfl, rfl⟩);clear hlen;go_wp2;go_ret2;exact ⟨ret_pr HB.out.1 HB.out.2, HS.out⟩
     ·have el : decide ((2000 : Int) < ((str Y2).size : Int)) = true := by rw [str_size]; exact decide_eq_true (by omega)
      have el2 : decide ((2000 : Int) < (Y2.length : Int)) = true := decide_eq_true (by omega);have HB : Hid ([] = X.1 ∧ 9 = X.2) := LH (by rw [HX.out]; unfold printF; rw [← HT.out, if_neg (fun h => hlen h.2)]; exact ⟨rfl, rfl⟩);clear hlen;go_wp2;go_ret2;exact ⟨ret_pr HB.out.1 HB.out.2, HS.out⟩
    have ek1 := int_eq_f hk1;by_cases hk2 : l.mode = 2
    ·have ek2 := int_eq_t hk2;obtain ⟨Y1, hY1⟩ : ∃ Y, Y = [32, 65, 83, 32, 79, 70, 32, 83, 89, 83, 84, 69, 77, 32, 84, 73, 77, 69, 32, 66, 79, 85, 78, 68, 32] ++ D := ⟨_, rfl⟩;obtain ⟨Y2, hY2⟩ : ∃ Y, Y = T0 ++ Y1 := ⟨_, rfl⟩;have l1 : Y1.length = ([32, 65, 83, 32, 79, 70, 32, 83, 89, 83, 84, 69, 77, 32, 84, 73, 77, 69, 32, 66, 79, 85, 78, 68, 32] : List UInt8).length + D.length := by rw [hY1, List.length_append]
     simp only [List.length_cons, List.length_nil] at l1;have a1 : ∀ w, (Op.stringOp .add ⟨#[32, 65, 83, 32, 79, 70, 32, 83, 89, 83, 84, 69, 77, 32, 84, 73, 77, 69, 32, 66, 79, 85, 78, 68, 32]⟩ (str D)).run Tryz.prog w = .ok (.string (str Y1)) w := fun w => hY1 ▸ add_str [32, 65, 83, 32, 79, 70, 32, 83, 89, 83, 84, 69, 77, 32, 84, 73, 77, 69, 32, 66, 79, 85, 78, 68, 32] D (by simp only [List.length_cons, List.length_nil]; omega) w
     have a2 : ∀ w, (Op.stringOp .add (str T0) (str Y1)).run Tryz.prog w = .ok (.string (str Y2)) w := fun w => hY2 ▸ add_str T0 Y1 (by omega) w
     have HT : Hid (Y2 = lotT l) := LH (by unfold lotT modeT; rw [hY2, hY1, HT0.out, HD.out, if_neg hk1, if_pos hk2]);clear l1 hY1 hY2;clear hk1 hk2 hl0 hld;by_cases hlen : Y2.length ≤ 2000
     ·have el : decide ((2000 : Int) < ((str Y2).size : Int)) = false := by rw [str_size]; exact decide_eq_false (by omega)
      have el2 : decide ((2000 : Int) < (Y2.length : Int)) = false := decide_eq_false (by omega);have HB : Hid (Y2 = X.1 ∧ 0 = X.2) := LH (by rw [HX.out]; unfold printF; rw [← HT.out, if_pos ⟨HMY.out, hlen⟩]; exact ⟨rfl, rfl⟩);clear hlen;go_wp2;go_ret2;exact ⟨ret_pr HB.out.1 HB.out.2, HS.out⟩
     ·have el : decide ((2000 : Int) < ((str Y2).size : Int)) = true := by rw [str_size]; exact decide_eq_true (by omega)
      have el2 : decide ((2000 : Int) < (Y2.length : Int)) = true := decide_eq_true (by omega);have HB : Hid ([] = X.1 ∧ 9 = X.2) := LH (by rw [HX.out]; unfold printF; rw [← HT.out, if_neg (fun h => hlen h.2)]; exact ⟨rfl, rfl⟩);clear hlen;go_wp2;go_ret2;exact ⟨ret_pr HB.out.1 HB.out.2, HS.out⟩
    have ek2 := int_eq_f hk2;have HT : Hid (T0 = lotT l) := LH (by unfold lotT modeT; rw [HT0.out, if_neg hk1, if_neg hk2, List.append_nil]);clear hk1 hk2 hl0 hld;by_cases hlen : T0.length ≤ 2000
    ·have el : decide ((2000 : Int) < ((str T0).size : Int)) = false := by rw [str_size]; exact decide_eq_false (by omega)
     have el2 : decide ((2000 : Int) < (T0.length : Int)) = false := decide_eq_false (by omega);have HB : Hid (T0 = X.1 ∧ 0 = X.2) := LH (by rw [HX.out]; unfold printF; rw [← HT.out, if_pos ⟨HMY.out, hlen⟩]; exact ⟨rfl, rfl⟩);clear hlen;go_wp2;go_ret2;exact ⟨ret_pr HB.out.1 HB.out.2, HS.out⟩
    ·have el : decide ((2000 : Int) < ((str T0).size : Int)) = true := by rw [str_size]; exact decide_eq_true (by omega)
     have el2 : decide ((2000 : Int) < (T0.length : Int)) = true := decide_eq_true (by omega);have HB : Hid ([] = X.1 ∧ 9 = X.2) := LH (by rw [HX.out]; unfold printF; rw [← HT.out, if_neg (fun h => hlen h.2)]; exact ⟨rfl, rfl⟩);clear hlen;go_wp2;go_ret2;exact ⟨ret_pr HB.out.1 HB.out.2, HS.out⟩
set_option maxRecDepth 100000 in
set_option maxHeartbeats 8000000 in
theorem reftext_any : ∀ (e : Ex) (d : Nat) (u : Value) (w : World), d ≤ 16 → mayE e d = true → ExI e → ExR w (fun _ => True) u e → Calls Tryz.prog 56 #[exV u e] w (TextP (showE e) w) := by
 apply Ex.ind;intro k s v l ih d u w hd h hI hr;obtain ⟨A, c, rfl, hc1, hc2⟩ := hr.toL.form;have hl : ExL w (fun _ => True) (.slice A l.length c) l := hr.toL;show Calls Tryz.prog 56 #[.agg #[.int .i64 k, .string (str s), .int .i64 v.kind, .int .i64 v.n, .string (str v.s), .slice A l.length c]] w (TextP (showE (.mk k s v l)) w);obtain ⟨X, hX⟩ : ∃ X, X = showE (.mk k s v l) := ⟨_, rfl⟩;rw [← hX];have HX := LH hX;have hA := (Same.refl (fun _ => True) w).alloc (.cells #[.int .i64 k, .string (str s), .int .i64 v.kind, .int .i64 v.n, .string (str v.s), .slice A l.length c] 34);have hrow := Row.new w 34 [.int .i64 k, .string (str s), .int .i64 v.kind, .int .i64 v.n, .string (str v.s), .slice A l.length c];have hl1 := hl.keepAll hA;clear hX hr hl;rw [mayE] at h;by_cases h0 : d = 0
 ·rw [if_pos h0] at h; cases h
 rw [if_neg h0] at h;go_enter Tryz.func56, Tryz.ntmps56;go_upto_region 1 with (fail);revert hA hrow hl1;generalize w.alloc _ = w1;intro hA hrow hl1;have HS := LH hA;have c0 := hrow.cell 0;have c1 := hrow.cell 1;have c2 := hrow.cell 2;have c3 := hrow.cell 3;have c4 := hrow.cell 4;have c5 := hrow.cell 5;simp only [LG] at c0 c1 c2 c3 c4 c5;have HROW := LH hrow;clear hA hrow;by_cases h1 : k = 1
 ·have e1 : (k == 1) = true := by rw [h1]; rfl
  rw [if_pos h1] at h;simp only [Bool.and_eq_true, decide_eq_true_eq] at h;obtain ⟨⟨⟨-, -⟩, h3⟩, h4⟩ := h;have HB : Hid (showL v = X) := LH (by rw [HX.out, h1]; rfl);have hsh := refshow_any v w1 (i64_I hI.val);clear h1 h3 h4 hl1;go_wp2_with (go_at_call 98; refine stopAt ?_);unfold Hid;refine hsh.mono ?_;rintro e w2 ⟨rfl, hS⟩;have HS := LH (HS.out.trans hS);clear hS hsh;go_wp2;go_ret;exact ⟨ret_str HB.out, HS.out⟩
 have e1 : (k == 1) = false := by simpa using h1
 rw [if_neg h1] at h;by_cases h2 : k = 2
 ·have e2 : (k == 2) = true := by rw [h2]; rfl
  have HB : Hid (s = X) := LH (by rw [HX.out, h2]; rfl);clear h1 h2 hl1 h;go_wp2;go_ret;exact ⟨ret_str HB.out, HS.out⟩
 have e2 : (k == 2) = false := by simpa using h2
 rw [if_neg h2] at h;simp only [Bool.and_eq_true, decide_eq_true_eq] at h;obtain ⟨⟨⟨h3, rfl⟩, h4⟩, h5⟩ := h;have hm := mayEs_mem h5;have HK := LH h3;clear h1 h2 h3 h5;rcases args_range s with hs | hs | hs
 ·obtain ⟨a, rfl⟩ : ∃ a, l = [a] := by
   match l, h4 with
   | [a], _ => exact ⟨a, rfl⟩
   | [], h3 => simp at h3; omega
   | a :: b :: r, h3 => simp at h3; omega
  have ha := hm a (by simp);have hIa := hI.arg a (by simp [Ex.args]);have hlen := showE_most ha (by omega) hIa;obtain ⟨ad, ua, rfl, -, hla, d0, d1, d2, d3, d4, d5⟩ := ExL.cells (i := 0) hl1 (by simp);obtain ⟨Aa, ca, rfl, -, -⟩ := hla.form;simp only [List.getElem_cons_zero, Nat.zero_mul, add_zero] at d0 d1 d2 d3 d4 d5 hla;have hia := ih a (by simp) (d - 1) (.slice Aa a.args.length ca) w1 (by omega) ha hIa ((ExR.iff _ _).2 hla);have HX1 : Hid (X = showE (.mk 3 s .zero [a])) := LH (by rw [HX.out, HK.out]);obtain ⟨D, hD⟩ : ∃ D, D = showE a := ⟨_, rfl⟩;rw [← hD] at hia hlen;have HD := LH hD;have z0 : (0 : Int) < ((1 : Nat) : Int) := by omega
  clear hm hI h4 hl1 hla ha hIa hD;change w1.cell? ⟨w.heap.size, 5, none⟩ = some (.slice (some ad) 1 c) at c5;rcases args_one hs with rfl | rfl | rfl | rfl
  ·have HB : Hid ([40, 78, 79, 84, 32] ++ D ++ [41] = X) := LH (by rw [HX1.out, HD.out]; rfl);have a1 : ∀ w, (Op.stringOp .add ⟨#[40, 78, 79, 84, 32]⟩ (str D)).run Tryz.prog w = .ok (.string (str ([40, 78, 79, 84, 32] ++ D))) w := fun w => add_str [40, 78, 79, 84, 32] D (by simp; omega) w
   have a2 : ∀ w, (Op.stringOp .add (str ([40, 78, 79, 84, 32] ++ D)) ⟨#[41]⟩).run Tryz.prog w = .ok (.string (str ([40, 78, 79, 84, 32] ++ D ++ [41]))) w := fun w => add_str ([40, 78, 79, 84, 32] ++ D) [41] (by simp; omega) w
   generalize hY : [40, 78, 79, 84, 32] ++ D = Y at a1 a2 HB;clear hY hs hlen;go_wp2_with (go_at_call 56; refine stopAt ?_);unfold Hid;refine hia.mono ?_;rintro e w2 ⟨rfl, hS⟩;have HS := LH (HS.out.trans hS);have HROW := LH (HROW.out.keep hS tv);have k1 := HROW.out.cell 1;simp only [LG, wNOT] at k1;clear hS hia c0 c1 c2 c3 c4 c5 d0 d1 d2 d3 d4 d5;go_wp2;go_ret;exact ⟨ret_str HB.out, HS.out⟩
  ·have HB : Hid ([40] ++ D ++ [32, 73, 83, 32, 78, 85, 76, 76, 41] = X) := LH (by rw [HX1.out, HD.out]; rfl);have a1 : ∀ w, (Op.stringOp .add ⟨#[40]⟩ (str D)).run Tryz.prog w = .ok (.string (str ([40] ++ D))) w := fun w => add_str [40] D (by simp; omega) w
   have a2 : ∀ w, (Op.stringOp .add (str ([40] ++ D)) ⟨#[32, 73, 83, 32, 78, 85, 76, 76, 41]⟩).run Tryz.prog w = .ok (.string (str ([40] ++ D ++ [32, 73, 83, 32, 78, 85, 76, 76, 41]))) w := fun w => add_str ([40] ++ D) [32, 73, 83, 32, 78, 85, 76, 76, 41] (by simp; omega) w
   generalize hY : [40] ++ D = Y at a1 a2 HB;clear hY hs hlen;go_wp2_with (go_at_call 56; refine stopAt ?_);unfold Hid;refine hia.mono ?_;rintro e w2 ⟨rfl, hS⟩;have HS := LH (HS.out.trans hS);have HROW := LH (HROW.out.keep hS tv);have k1 := HROW.out.cell 1;simp only [LG, wISNULL] at k1;clear hS hia c0 c1 c2 c3 c4 c5 d0 d1 d2 d3 d4 d5;go_wp2;go_ret;exact ⟨ret_str HB.out, HS.out⟩
  ·have HB : Hid ([40] ++ D ++ [32, 73, 83, 32, 78, 79, 84, 32, 78, 85, 76, 76, 41] = X) := LH (by rw [HX1.out, HD.out]; rfl);have a1 : ∀ w, (Op.stringOp .add ⟨#[40]⟩ (str D)).run Tryz.prog w = .ok (.string (str ([40] ++ D))) w := fun w => add_str [40] D (by simp; omega) w
   have a2 : ∀ w, (Op.stringOp .add (str ([40] ++ D)) ⟨#[32, 73, 83, 32, 78, 79, 84, 32, 78, 85, 76, 76, 41]⟩).run Tryz.prog w = .ok (.string (str ([40] ++ D ++ [32, 73, 83, 32, 78, 79, 84, 32, 78, 85, 76, 76, 41]))) w := fun w => add_str ([40] ++ D) [32, 73, 83, 32, 78, 79, 84, 32, 78, 85, 76, 76, 41] (by simp; omega) w
   generalize hY : [40] ++ D = Y at a1 a2 HB;clear hY hs hlen;go_wp2_with (go_at_call 56; refine stopAt ?_);unfold Hid;refine hia.mono ?_;rintro e w2 ⟨rfl, hS⟩;have HS := LH (HS.out.trans hS);have HROW := LH (HROW.out.keep hS tv);have k1 := HROW.out.cell 1;simp only [LG, wNOTNULL] at k1;clear hS hia c0 c1 c2 c3 c4 c5 d0 d1 d2 d3 d4 d5;go_wp2;go_ret;exact ⟨ret_str HB.out, HS.out⟩
  ·have HB : Hid ([40, 45, 32] ++ D ++ [41] = X) := LH (by rw [HX1.out, HD.out]; rfl);have a1 : ∀ w, (Op.stringOp .add ⟨#[40, 45, 32]⟩ (str D)).run Tryz.prog w = .ok (.string (str ([40, 45, 32] ++ D))) w := fun w => add_str [40, 45, 32] D (by simp; omega) w
   have a2 : ∀ w, (Op.stringOp .add (str ([40, 45, 32] ++ D)) ⟨#[41]⟩).run Tryz.prog w = .ok (.string (str ([40, 45, 32] ++ D ++ [41]))) w := fun w => add_str ([40, 45, 32] ++ D) [41] (by simp; omega) w
   generalize hY : [40, 45, 32] ++ D = Y at a1 a2 HB;clear hY hs hlen;go_wp2_with (go_at_call 56; refine stopAt ?_);unfold Hid;refine hia.mono ?_;rintro e w2 ⟨rfl, hS⟩;have HS := LH (HS.out.trans hS);have HROW := LH (HROW.out.keep hS tv);have k1 := HROW.out.cell 1;simp only [LG, wNEG] at k1;clear hS hia c0 c1 c2 c3 c4 c5 d0 d1 d2 d3 d4 d5;go_wp2;go_ret;exact ⟨ret_str HB.out, HS.out⟩
 ·obtain ⟨a, b, rfl⟩ : ∃ a b, l = [a, b] := by
   match l, h4 with
   | [a, b], _ => exact ⟨a, b, rfl⟩
   | [], h3 => simp at h3; omega
   | [a], h3 => simp at h3; omega
   | a :: b :: c :: r, h3 => simp at h3; omega
  have ha := hm a (by simp);have hb := hm b (by simp);have hIa := hI.arg a (by simp [Ex.args]);have hIb := hI.arg b (by simp [Ex.args]);have hlen := showE_most ha (by omega) hIa;have hlen2 := showE_most hb (by omega) hIb;have hlen3 := args_len hs;obtain ⟨ad, ua, hA1, -, hla, d0, d1, d2, d3, d4, d5⟩ := ExL.cells (i := 0) hl1 (by simp);obtain ⟨ad', ub, hA2, -, hlb, g0, g1, g2, g3, g4, g5⟩ := ExL.cells (i := 1) hl1 (by simp);subst hA1;injection hA2 with hA2;subst hA2;obtain ⟨Aa, ca, rfl, -, -⟩ := hla.form;obtain ⟨Ab, cb, rfl, -, -⟩ := hlb.form;simp only [List.getElem_cons_zero, List.getElem_cons_succ, Nat.zero_mul, Nat.one_mul, add_zero] at d0 d1 d2 d3 d4 d5 g0 g1 g2 g3 g4 g5 hla hlb;rw [show ad.add 6 = ⟨ad.block, ad.off + 6, none⟩ from addr_add _ _ (by omega)] at g0 g1 g2 g3 g4 g5;dsimp only at g0 g1 g2 g3 g4 g5;have gA : ∀ W, Same (fun _ => True) w1 W → Calls Tryz.prog 56 #[exV (.slice Aa a.args.length ca) a] W (TextP (showE a) W) := fun W hs => ih a (by simp) (d - 1) (.slice Aa a.args.length ca) W (by omega) ha hIa ((ExR.iff _ _).2 (hla.keepAll hs))
  have gB : ∀ W, Same (fun _ => True) w1 W → Calls Tryz.prog 56 #[exV (.slice Ab b.args.length cb) b] W (TextP (showE b) W) := fun W hs => ih b (by simp) (d - 1) (.slice Ab b.args.length cb) W (by omega) hb hIb ((ExR.iff _ _).2 (hlb.keepAll hs))
  have HX1 : Hid (X = 40 :: showE a ++ 32 :: s ++ 32 :: showE b ++ [41]) := LH (by rw [HX.out, HK.out]; exact showOp_two hs _ _);have n1 := str_no (args_ne hs (show argsN wISNULL = 1 from by decide));have n2 := str_no (args_ne hs (show argsN wNOTNULL = 1 from by decide));have n3 := str_no (args_ne hs (show argsN wNOT = 1 from by decide));have n4 := str_no (args_ne hs (show argsN wNEG = 1 from by decide));have m1 := args_ne hs (show argsN wISNULL = 1 from by decide);have m2 := args_ne hs (show argsN wNOTNULL = 1 from by decide);have m3 := args_ne hs (show argsN wNOT = 1 from by decide);have m4 := args_ne hs (show argsN wNEG = 1 from by decide);simp only [wISNULL, wNOTNULL, wNOT, wNEG] at n1 n2 n3 n4 m1 m2 m3 m4;obtain ⟨DA, hDA⟩ : ∃ D, D = showE a := ⟨_, rfl⟩;obtain ⟨DB, hDB⟩ : ∃ D, D = showE b := ⟨_, rfl⟩;rw [← hDA] at gA hlen;rw [← hDB] at gB hlen2;have HD := LH hDA;have HD2 := LH hDB;have z0 : (0 : Int) < ((2 : Nat) : Int) := by omega
  have z1 : (1 : Int) < ((2 : Nat) : Int) := by omega
  clear hm hI h4 hl1 hla hlb ha hb hIa hIb hDA hDB;change w1.cell? ⟨w.heap.size, 5, none⟩ = some (.slice (some ad) 2 c) at c5;obtain ⟨Y1, hY1⟩ : ∃ Y, Y = [40] ++ DA := ⟨_, rfl⟩;obtain ⟨Y2, hY2⟩ : ∃ Y, Y = Y1 ++ [32] := ⟨_, rfl⟩;obtain ⟨Y3, hY3⟩ : ∃ Y, Y = Y2 ++ s := ⟨_, rfl⟩;obtain ⟨Y4, hY4⟩ : ∃ Y, Y = Y3 ++ [32] := ⟨_, rfl⟩;obtain ⟨Y5, hY5⟩ : ∃ Y, Y = Y4 ++ DB := ⟨_, rfl⟩;obtain ⟨Y6, hY6⟩ : ∃ Y, Y = Y5 ++ [41] := ⟨_, rfl⟩;have l1 : Y1.length = DA.length + 1 := by rw [hY1, List.length_append, List.length_singleton]; omega
  have l2 : Y2.length = Y1.length + 1 := by rw [hY2]; simp
  have l3 : Y3.length = Y2.length + s.length := by rw [hY3]; simp
  have l4 : Y4.length = Y3.length + 1 := by rw [hY4]; simp
  have l5 : Y5.length = Y4.length + DB.length := by rw [hY5]; simp
  have a1 : ∀ w, (Op.stringOp .add ⟨#[40]⟩ (str DA)).run Tryz.prog w = .ok (.string (str Y1)) w := fun w => hY1 ▸ add_str [40] DA (by simp; omega) w
  have a2 : ∀ w, (Op.stringOp .add (str Y1) ⟨#[32]⟩).run Tryz.prog w = .ok (.string (str Y2)) w := fun w => hY2 ▸ add_str Y1 [32] (by simp; omega) w
  have a3 : ∀ w, (Op.stringOp .add (str Y2) (str s)).run Tryz.prog w = .ok (.string (str Y3)) w := fun w => hY3 ▸ add_str Y2 s (by omega) w
  have a4 : ∀ w, (Op.stringOp .add (str Y3) ⟨#[32]⟩).run Tryz.prog w = .ok (.string (str Y4)) w := fun w => hY4 ▸ add_str Y3 [32] (by simp; omega) w
  have a5 : ∀ w, (Op.stringOp .add (str Y4) (str DB)).run Tryz.prog w = .ok (.string (str Y5)) w := fun w => hY5 ▸ add_str Y4 DB (by omega) w
  have a6 : ∀ w, (Op.stringOp .add (str Y5) ⟨#[41]⟩).run Tryz.prog w = .ok (.string (str Y6)) w := fun w => hY6 ▸ add_str Y5 [41] (by simp; omega) w
  have HB : Hid (Y6 = X) := LH (by rw [HX1.out, hY6, hY5, hY4, hY3, hY2, hY1, HD.out, HD2.out]; simp);clear l1 l2 l3 l4 l5 hlen hlen2 hlen3 hY1 hY2 hY3 hY4 hY5 hY6 hs;go_wp2_with (go_at_call 56; refine stopAt ?_);unfold Hid;refine (gA w1 SR).mono ?_;rintro e w2 ⟨rfl, hS⟩;have HS := LH (HS.out.trans hS);have HROW := LH (HROW.out.keep hS tv);have gB2 : ∀ W, Same (fun _ => True) w2 W → Calls Tryz.prog 56 #[exV (.slice Ab b.args.length cb) b] W (TextP DB W) := fun W h => gB W (hS.trans h)
  clear gB;have k1 := HROW.out.cell 1;have k5 := HROW.out.cell 5;simp only [LG] at k1 k5;change w2.cell? ⟨w.heap.size, 5, none⟩ = some (.slice (some ad) 2 c) at k5;have q0 := hS.cell (p := ⟨ad.block, ad.off + 6, none⟩) tv g0;have q1 := hS.cell (p := ⟨ad.block, ad.off + 6 + 1, none⟩) tv g1;have q2 := hS.cell (p := ⟨ad.block, ad.off + 6 + 2, none⟩) tv g2;have q3 := hS.cell (p := ⟨ad.block, ad.off + 6 + 3, none⟩) tv g3;have q4 := hS.cell (p := ⟨ad.block, ad.off + 6 + 4, none⟩) tv g4;have q5 := hS.cell (p := ⟨ad.block, ad.off + 6 + 5, none⟩) tv g5;clear hS gA c0 c1 c2 c3 c4 c5 d0 d1 d2 d3 d4 d5 g0 g1 g2 g3 g4 g5;go_upto_region 16 with (fail);refine wp_region_eq_lit (vs := [(.string (str DA)), (.string (str Y1)), (.string (str Y2)), (.pointer (some ⟨w.heap.size, 1, none⟩)), (.string (str s)), (.string (str Y3)), (.string (str Y4)), (.pointer (some ⟨w.heap.size, 5, none⟩)), (.slice (some ad) 2 c), (.pointer (some ⟨ad.block, ad.off + 6, none⟩)), (exV (.slice Ab b.args.length cb) b), (.string (str DB)), (.string (str Y5)), (.string (str Y6)), (.string (str Y6))]) (by kernel_rfl) (by kernel_rfl) rfl rfl ?_ ?_
  ·refine ⟨?_, ?_, ?_, ?_, ?_, ?_, ?_, ?_, ?_, ?_, ?_, ?_, ?_, ?_, ?_, tv⟩
   all_goals intro ac wc hs hd hz hf hw K hK
   ·have e0 := EV 3 (.string (str DA)) (hf 3 rfl);clear hd hz hf hw;simp only [if_true, RL, e0];go_simp;exact hK _ _ rfl SR
   ·have e0 := EV 42 (.string (str DA)) (hw 0 rfl);clear hd hz hf hw;simp only [if_true, RL, e0];go_simp;exact hK _ _ rfl SR
   ·have e0 := EV 43 (.string (str Y1)) (hw 1 rfl);clear hd hz hf hw;simp only [if_true, RL, e0];go_simp;exact hK _ _ rfl SR
   ·have e0 := EP 1 w.heap.size 0 (hf 1 rfl);clear hd hz hf hw;simp only [if_true, RL, e0];go_simp;exact hK _ _ rfl SR
   ·have e0 := EP 45 w.heap.size 1 (hw 3 rfl);have m0 := MC k1 hs tv;clear hd hz hf hw;simp only [if_true, RL, e0];go_simp;exact hK _ _ rfl SR
   ·have e0 := EV 44 (.string (str Y2)) (hw 2 rfl);have e1 := EV 46 (.string (str s)) (hw 4 rfl);clear hd hz hf hw;simp only [if_true, RL, e0, e1];go_simp;exact hK _ _ rfl SR
   ·have e0 := EV 47 (.string (str Y3)) (hw 5 rfl);clear hd hz hf hw;simp only [if_true, RL, e0];go_simp;exact hK _ _ rfl SR
   ·have e0 := EP 1 w.heap.size 0 (hf 1 rfl);clear hd hz hf hw;simp only [if_true, RL, e0];go_simp;exact hK _ _ rfl SR
   ·have e0 := EP 49 w.heap.size 5 (hw 7 rfl);have m0 := MC k5 hs tv;clear hd hz hf hw;simp only [if_true, RL, e0];go_simp;exact hK _ _ rfl SR
   ·have e0 := EV 50 (.slice (some ad) 2 c) (hw 8 rfl);clear hd hz hf hw;simp only [if_true, RL, e0];go_simp;exact hK _ _ rfl SR
   ·have e0 : ac.eval (.tmp 51) = (.pointer (some ⟨ad.block, ad.off + 6, none⟩)) := hw 9 rfl;have m0 := MC q0 hs tv;have m1 := MC q1 hs tv;have m2 := MC q2 hs tv;have m3 := MC q3 hs tv;have m4 := MC q4 hs tv;have m5 := MC q5 hs tv;clear hd hz hf hw;simp only [if_true, RL, e0];go_simp;exact hK _ _ rfl SR
   ·have e0 := EV 52 (exV (.slice Ab b.args.length cb) b) (hw 10 rfl);clear hd hz hf hw;simp only [if_true, RL, e0];go_simp;refine (gB2 _ hs).mono ?_;rintro e wd ⟨rfl, hsd⟩;exact hK _ _ rfl hsd
   ·have e0 := EV 48 (.string (str Y4)) (hw 6 rfl);have e1 := EV 53 (.string (str DB)) (hw 11 rfl);clear hd hz hf hw;simp only [if_true, RL, e0, e1];go_simp;exact hK _ _ rfl SR
   ·have e0 := EV 54 (.string (str Y5)) (hw 12 rfl);clear hd hz hf hw;simp only [if_true, RL, e0];go_simp;exact hK _ _ rfl SR
   ·have e0 := EV 55 (.string (str Y6)) (hw 13 rfl);clear hd hz hf hw;simp only [if_true, RL, e0];go_simp;exact hK _ _ rfl SR
  ·intro wR hsR;simp only [putAll, Act.put, LP];have HS := LH (HS.out.trans hsR);clear hsR;go_wp2;go_ret;exact ⟨ret_str HB.out, HS.out⟩
 ·rw [hs] at h4; omega
theorem joinT_snoc (sep : List UInt8) : ∀ (l : List (List UInt8)) (a : List UInt8), l ≠ [] → joinT sep (l ++ [a]) = joinT sep l ++ sep ++ a
 | [], a, h => absurd rfl h
 | [b], a, _ => by simp [joinT]
 | b :: c :: l, a, _ => by
  have := joinT_snoc sep (c :: l) a (by simp);simp only [List.cons_append, joinT] at this ⊢;rw [this];simp only [List.append_assoc]
theorem sC_len (s : List UInt8) : (sC s).length = 1 := rfl
set_option maxHeartbeats 4000000 in
theorem refjoin_any (L : List (List UInt8)) (S : Nat → Prop) (v : Value) (w : World) (h : RowR sC 1 w S v L) (hn : L.length ≤ 100) (hM : ∀ x ∈ L, x.length ≤ 2000000000) :
  Calls Tryz.prog 55 #[v] w fun e w' => e = .returned (.string (str (joinT [44, 32] L))) ∧ w' = w := by
 have HR := LH h;have HM := LH hM;obtain ⟨A, c, rfl, hc1, hc2, -⟩ := h;unfold maxLen at hc2
 have HB : Hid (∀ q, (joinT [44, 32] (L.take q)).length ≤ 100 * 2000000002) := LH fun q => by
  have h1 : (joinT [44, 32] (L.take q)).length ≤ (L.take q).length * 2000000002 := join_len [44, 32] 2000000000 (L.take q) fun x hx => HM.out x (List.mem_of_mem_take hx)
  have h2 : (L.take q).length * 2000000002 ≤ 100 * 2000000002 := Nat.mul_le_mul_right _ (by rw [List.length_take]; omega);exact Nat.le_trans h1 h2
 clear hM;go_enter Tryz.func55, Tryz.ntmps55;go_wp2;go_loop [3, 4] (fun x i => ∃ q : Nat, x = .string (str (joinT [44, 32] (L.take q))) ∧ i = .int .i64 (q : Int) ∧ q ≤ L.length) (fun _ i => L.length - (intOf i).toNat)
 case atStart => exact ⟨0, rfl, rfl, Nat.zero_le _⟩
 case round =>
  obtain ⟨q, rfl, rfl, hq⟩ := hrel;have x1 : (0 : Int) ≤ (q : Int) := by omega
  by_cases hql : q < L.length
  ·have x2 : (q : Int) < (L.length : Int) := by omega
   obtain ⟨ad, c', hv, -, -, -, hcl⟩ := HR.out.at_ sC_len hql;injection hv with hv;subst hv;have d0 := hcl 0 (by omega);rw [Nat.mul_one, add_zero] at d0;simp only [sC, List.getElem?_cons_zero] at d0;have hx := HM.out L[q] (List.getElem_mem hql);have hb := HB.out q
   have hj : q ≠ 0 → joinT [44, 32] (L.take (q + 1)) = joinT [44, 32] (L.take q) ++ [44, 32] ++ L[q] := fun h => by
    rw [List.take_succ_eq_append_getElem hql]
    exact joinT_snoc _ _ _ fun e => by
     have := congrArg List.length e;rw [List.length_take, List.length_nil] at this;omega
   clear hcl;by_cases h0 : q = 0
   ·subst h0;have hz : joinT [44, 32] (L.take (0 + 1)) = L[0] := by rw [List.take_succ_eq_append_getElem hql]; rfl
    have HZ := LH hz;have a1 : ∀ w, (Op.stringOp .add ⟨#[]⟩ (str L[0])).run Tryz.prog w = .ok (.string (str L[0])) w := fun w => add_str [] L[0] (by simp; omega) w
    have a2 : ∀ w, (Op.stringOp .add (str []) (str L[0])).run Tryz.prog w = .ok (.string (str L[0])) w := fun w => add_str [] L[0] (by simp; omega) w
    clear hj hz hb hx;have ej : joinT [44, 32] (L.take 0) = [] := by rw [List.take_zero]; rfl
    rw [add_zero] at d0;rw [ej];clear ej;generalize L[0] = x at *;go_wp2;go_round
    case rel => exact ⟨1, by rw [HZ.out], rfl, by omega⟩
    case measure => simp [intOf]; omega
   ·have x3 : (0 : Int) < (q : Int) := by omega
    have HZ := LH (hj h0);generalize joinT [44, 32] (L.take q) = J at *;generalize L[q] = x at *;have a1 : ∀ w, (Op.stringOp .add (str J) ⟨#[44, 32]⟩).run Tryz.prog w = .ok (.string (str (J ++ [44, 32]))) w := fun w => add_str J [44, 32] (by simp; omega) w
    have a2 : ∀ w, (Op.stringOp .add (str (J ++ [44, 32])) (str x)).run Tryz.prog w = .ok (.string (str (J ++ [44, 32] ++ x))) w := fun w => add_str (J ++ [44, 32]) x (by simp; omega) w
    generalize hY : J ++ [44, 32] = Y at a1 a2 HZ;clear hj h0 hb hx hY;go_wp2;go_round
    case rel => exact ⟨q + 1, by rw [HZ.out], by go_num, by omega⟩
    case measure => simp [intOf]; omega
  ·obtain rfl : q = L.length := by omega
   have hz : joinT [44, 32] (L.take L.length) = joinT [44, 32] L := by rw [List.take_length]
   rw [hz];clear hz;go_wp2;go_ret;exact ⟨rfl, rfl⟩
set_option maxRecDepth 100000 in
set_option maxHeartbeats 4000000 in
theorem refitemx_any (m : Nat) (x : Itm) (u : Value) (w : World) (h : mayI m x = true) (hI : ExI x.e) (hr : ExR w (fun _ => True) u x.e) : Calls Tryz.prog 54 #[itV u x] w (TextP (showI x) w) := by
 obtain ⟨A, c, rfl, -, -⟩ := hr.toL.form;obtain ⟨X, hX⟩ : ∃ X, X = showI x := ⟨_, rfl⟩;rw [← hX];have HX := LH hX;have hA := (Same.refl (fun _ => True) w).alloc (.cells #[.int .i64 x.kind, .int .i64 x.e.kind, .string (str x.e.s), .int .i64 x.e.v.kind, .int .i64 x.e.v.n, .string (str x.e.v.s), .slice A x.e.args.length c] 63);have hrow := Row.new w 63 [.int .i64 x.kind, .int .i64 x.e.kind, .string (str x.e.s), .int .i64 x.e.v.kind, .int .i64 x.e.v.n, .string (str x.e.v.s), .slice A x.e.args.length c];have hr1 := hr.keepAll hA;clear hX hr;go_enter Tryz.func54, Tryz.ntmps54;go_upto_region 1 with (fail);revert hA hrow hr1;generalize w.alloc _ = w1;intro hA hrow hr1;have HS := LH hA;have HR := LH hr1;obtain ⟨c0, c1, c2, c3, c4, c5, c6⟩ := CN7 hrow;clear hA hrow hr1;unfold mayI at h;by_cases k1 : x.kind = 1
 ·have f1 := int_eq_t k1;have HB : Hid ([42] = X) := LH (by rw [HX.out]; unfold showI; rw [if_pos k1]);clear k1 h;go_wp2;go_ret;exact ⟨ret_str HB.out, HS.out⟩
 have f1 := int_eq_f k1;rw [if_neg k1] at h;by_cases k3 : x.kind = 3
 ·have f3 := int_eq_t k3;have HB : Hid ([67, 79, 85, 78, 84, 32, 40, 42, 41] = X) := LH (by rw [HX.out]; unfold showI; rw [if_neg k1, if_pos k3]);clear k1 k3 h;go_wp2;go_ret;exact ⟨ret_str HB.out, HS.out⟩
 have f3 := int_eq_f k3;rw [if_neg k3] at h
 have h24 : x.kind = 2 ∨ x.kind = 4 := by
  by_cases hh : x.kind = 2 ∨ x.kind = 4
  ·exact hh
  ·rw [if_neg hh] at h; cases h
 rw [if_pos h24] at h;have hlen := showE_most h (by omega) hI;have ht := reftext_any x.e 16 (.slice A x.e.args.length c) w1 (by omega) h hI HR.out;obtain ⟨D, hD⟩ : ∃ D, D = showE x.e := ⟨_, rfl⟩;rw [← hD] at hlen ht;have HD := LH hD;clear hD h24 h hI;by_cases k4 : x.kind = 4
 ·have f4 := int_eq_t k4;have HB : Hid ([83, 85, 77, 32, 40] ++ D ++ [41] = X) := LH (by rw [HX.out, HD.out]; unfold showI; rw [if_neg k1, if_neg k3, if_pos k4]);have a1 : ∀ w, (Op.stringOp .add ⟨#[83, 85, 77, 32, 40]⟩ (str D)).run Tryz.prog w = .ok (.string (str ([83, 85, 77, 32, 40] ++ D))) w := fun w => add_str [83, 85, 77, 32, 40] D (by simp; omega) w
  have a2 : ∀ w, (Op.stringOp .add (str ([83, 85, 77, 32, 40] ++ D)) ⟨#[41]⟩).run Tryz.prog w = .ok (.string (str ([83, 85, 77, 32, 40] ++ D ++ [41]))) w := fun w => add_str ([83, 85, 77, 32, 40] ++ D) [41] (by simp; omega) w
  generalize hY : [83, 85, 77, 32, 40] ++ D = Y at a1 a2 HB;clear k1 k3 k4 hY hlen;go_wp2_with (go_at_call 56; refine stopAt ?_);unfold Hid;refine ht.mono ?_;rintro e w2 ⟨rfl, hS⟩;have HS := LH (HS.out.trans hS);clear hS ht;go_wp2;go_ret;exact ⟨ret_str HB.out, HS.out⟩
 ·have f4 := int_eq_f k4;have HB : Hid (D = X) := LH (by rw [HX.out, HD.out]; unfold showI; rw [if_neg k1, if_neg k3, if_neg k4]);clear k1 k3 k4 hlen;go_wp2_with (go_at_call 56; refine stopAt ?_);unfold Hid;refine ht.mono ?_;rintro e w2 ⟨rfl, hS⟩;have HS := LH (HS.out.trans hS);clear hS ht;go_wp2;go_ret;exact ⟨ret_str HB.out, HS.out⟩
end Go.Proofs.YtdfojghhpdkpfaaGreatDoor
