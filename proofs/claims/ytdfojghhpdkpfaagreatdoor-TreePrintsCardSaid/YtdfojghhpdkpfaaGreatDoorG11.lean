/-
  Words, plain models, laws and walks that the claims of this layer share (joined by shake.py). No condition.
-/
import Derived.StillTailTactics
import Derived.Lib.MinMax
import Derived.Test.YtdfojghhpdkpfaaGreatDoorG10
set_option linter.unusedSimpArgs false
set_option linter.unusedVariables false
namespace Go.Proofs.YtdfojghhpdkpfaaGreatDoor
open Go.RowKit
set_option maxRecDepth 100000 in
set_option maxHeartbeats 32000000 in
theorem refstmtx_any (s : Stm) (u : SU) (w : World) (hms : mayS s = true) (hI : StI s) (h : StR w (fun _ => True) u s) : Calls Tryz.prog 28 #[stV u s] w (TextP (showS s) w) := by
 obtain ⟨ui, ur, us, uc⟩ := u;obtain ⟨A1, y1_, q1, i1, i2⟩ := LsR.form (show LsR itCs 7 itOk _ _ ui s.items from h.1);subst q1;obtain ⟨A2, y2_, q1, i3, i4⟩ := LsR.form (show LsR rwCs 1 rwOk _ _ ur s.rows from h.2.1);subst q1;obtain ⟨A3, y3_, q1, i5, i6⟩ := LsR.form (show LsR asCs 7 asOk _ _ us s.sets from h.2.2.1);subst q1;obtain ⟨A4, y4_, q1, -⟩ := (show ExR _ _ uc s.cond from h.2.2.2).toL.form;subst q1;unfold maxLen at i2 i4 i6;have hlt := word_len (MayS.of hms).table;have HMS := LH (MayS.of hms);have HSI := LH hI;have hA := (Same.refl (fun _ => True) w).alloc (.cells #[.int .i64 s.kind, .string (str s.table), .slice A1 s.items.length y1_, .slice A2 s.rows.length y2_, .slice A3 s.sets.length y3_, .bool s.filt, .int .i64 s.cond.kind, .string (str s.cond.s), .int .i64 s.cond.v.kind, .int .i64 s.cond.v.n, .string (str s.cond.v.s), .slice A4 s.cond.args.length y4_, .string (str s.order), .bool s.down, .int .i64 s.limit] 44);have hrow := Row.new w 44 [.int .i64 s.kind, .string (str s.table), .slice A1 s.items.length y1_, .slice A2 s.rows.length y2_, .slice A3 s.sets.length y3_, .bool s.filt, .int .i64 s.cond.kind, .string (str s.cond.s), .int .i64 s.cond.v.kind, .int .i64 s.cond.v.n, .string (str s.cond.v.s), .slice A4 s.cond.args.length y4_, .string (str s.order), .bool s.down, .int .i64 s.limit];have hst := stK.keep h hA;clear hms hI h;go_enter Tryz.func28, Tryz.ntmps28;go_upto_block 0 with (fail);revert hA hrow hst;generalize w.alloc _ = W0;intro hA hrow hst;have HS := LH hA;generalize w.heap.size = g at *;obtain ⟨B, hB⟩ : ∃ B, B = W0.heap.size := ⟨_, rfl⟩;have hgB : g < B := by rw [hB]; exact hrow.lt
 have hBz : B ≤ W0.heap.size := by omega
 have HBB := LH hB;have HROW := LH hrow;have HR0 := LH hrow;have HST : Hid (StR W0 (fun k => k < B) ⟨.slice A1 s.items.length y1_, .slice A2 s.rows.length y2_, .slice A3 s.sets.length y3_, .slice A4 s.cond.args.length y4_⟩ s) := LH (stK.mono hst fun k hk _ => by rw [hB]; exact hk);have HS0 := LH HST.out;have HG := LH (Same.refl (fun k => k < B) W0);clear hA hrow hst hB;have c0 := HROW.out.cell 0;have c1 := HROW.out.cell 1;have c2 := HROW.out.cell 2;have c3 := HROW.out.cell 3;have c4 := HROW.out.cell 4;simp only [LG] at c0 c1 c2 c3 c4;go_cut [4] from 3 to 118 (fun v wx => ∃ (W : World) (H : List UInt8), W = wx ∧ v = .string (str H) ∧ Hid (H = headS s) ∧ H.length ≤ 2000000000 ∧ Row W g 44 [.int .i64 s.kind, .string (str s.table), .slice A1 s.items.length y1_, .slice A2 s.rows.length y2_, .slice A3 s.sets.length y3_, .bool s.filt, .int .i64 s.cond.kind, .string (str s.cond.s), .int .i64 s.cond.v.kind, .int .i64 s.cond.v.n, .string (str s.cond.v.s), .slice A4 s.cond.args.length y4_, .string (str s.order), .bool s.down, .int .i64 s.limit] ∧ StR W (fun k => k < B) ⟨.slice A1 s.items.length y1_, .slice A2 s.rows.length y2_, .slice A3 s.sets.length y3_, .slice A4 s.cond.args.length y4_⟩ s ∧ Same (fun k => k < B) W0 W)
 case first =>
  by_cases hk1 : s.kind = 1
  ·have ek1 := int_eq_t hk1;have hmi := HMS.out.items hk1;have hlenT := items_len hmi HSI.out.items;simp only [mayIs, Bool.and_eq_true, List.all_eq_true, decide_eq_true_eq] at hmi;have HLM : Hid (∀ y ∈ s.items, (showI y).length ≤ 13107300) := LH fun y hy => showI_len (hmi.1.1 y hy) (HSI.out.items y hy)
   have HMI := LH hmi.1.1;have hn6 := hmi.2;have HGO := LH hk1;clear hmi hk1;go_wp2;go_loopw [3, 5] (fun v i wr => ∃ q : Nat, i = .int .i64 (q : Int) ∧ q ≤ s.items.length ∧ OwnR sC 1 9 wr B v ((s.items.take q).map showI) ∧ Same (fun k => k < B) W0 wr ∧ B ≤ wr.heap.size) (fun _ i _ => s.items.length - (intOf i).toNat)
   case atStart => exact ⟨0, rfl, Nat.zero_le _, OwnR.nil _ _, HG.out, hBz⟩
   case round =>
    rename World => wr
    obtain ⟨q, rfl, hq, hov, hG, hz⟩ := hrel;obtain ⟨Av, cv, rfl, hv1, hv2⟩ := hov.form;have hln : ((s.items.take q).map showI).length = q := by rw [List.length_map, List.length_take]; omega
    rw [hln] at hov hv1 ⊢;unfold maxLen at hv2;have xq : (0 : Int) ≤ (q : Int) := by omega
    have HOV := LH hov;have HROW := LH (HR0.out.keep hG hgB);have HST := LH (stK.keep HS0.out hG);have HG := LH hG;clear hov hG;clear c0 c2 c3 c4;have c2 := HROW.out.cell 2;simp only [LG] at c2;by_cases hql : q < s.items.length
    ·have yq : (q : Int) < (s.items.length : Int) := by omega
     obtain ⟨ad, uq, rfl, hok, hcl⟩ := LsR.at_ (show LsR _ _ _ _ _ _ s.items from HST.out.1) itCs_len hql;obtain ⟨A_u, c_u, rfl, -, -⟩ := (show ExR _ _ uq s.items[q].e from hok).toL.form;have d0 := hcl 0 (by omega);rw [add_zero] at d0;have d1 := hcl 1 (by omega);rw [addr_add _ _ (by omega)] at d1;have d2 := hcl 2 (by omega);rw [addr_add _ _ (by omega)] at d2;have d3 := hcl 3 (by omega);rw [addr_add _ _ (by omega)] at d3;have d4 := hcl 4 (by omega);rw [addr_add _ _ (by omega)] at d4;have d5 := hcl 5 (by omega);rw [addr_add _ _ (by omega)] at d5;have d6 := hcl 6 (by omega);rw [addr_add _ _ (by omega)] at d6;simp only [itCs, exCs, LG] at d0 d1 d2 d3 d4 d5 d6;have hx0 := ExR.mono (S' := fun _ => True) (show ExR _ _ _ s.items[q].e from hok) (fun _ _ _ => tv);clear hok hcl;have ht := refitemx_any s.items.length s.items[q] (.slice A_u s.items[q].e.args.length c_u) wr (HMI.out _ (List.getElem_mem hql)) (HSI.out.items _ (List.getElem_mem hql)) hx0;clear hx0;go_wp2_with (go_at_call 54; refine stopAt ?_);unfold Hid;refine (show Calls _ _ _ _ _ from ht).mono ?_;rintro e w5 ⟨rfl, hS5⟩;have HOV5 := LH (HOV.out.keepAll hS5);have hz5 : B ≤ w5.heap.size := Nat.le_trans hz hS5.size;have HG5 := LH (HG.out.trans (hS5.mono (S' := (fun k => k < B)) fun _ _ _ => tv));clear hS5 ht;go_wp2_with (at_builtin; refine stopAt ?_);unfold Hid;refine wpList_appR1 TSs sC_len (fun x u hu => by simp only [sC, List.mem_cons, List.not_mem_nil, or_false] at hu; rw [hu]; rfl) rfl (.tmp 24) (.tmp 31) rfl (f := sC) (B := B) (v := .slice Av q cv) (l := (s.items.take q).map showI) (c := showI s.items[q]) rfl rfl rfl HOV5.out hz5 (by rw [hln]; simp only [maxLen]; omega) (by rw [hln]; omega) ?_;intro v9 w9 hO hS9
     have hO : OwnR sC 1 9 w9 B v9 ((s.items.take (q + 1)).map showI) := by
      rw [List.take_add_one, List.getElem?_eq_getElem hql, List.map_append];exact hO
     obtain ⟨A9, c9, rfl, -, -⟩ := hO.form;have hln9 : ((s.items.take (q + 1)).map showI).length = q + 1 := by rw [List.length_map, List.length_take]; omega
     rw [hln9] at hO ⊢;have HO9 := LH hO;clear hO hln9;have HG9 := LH (HG5.out.trans hS9);have hz9 : B ≤ w9.heap.size := Nat.le_trans hz5 hS9.size;clear hS9;go_wp2;go_roundw
     case rel => exact ⟨q + 1, by go_num, by omega, HO9.out, HG9.out, hz9⟩
     case measure => simp [intOf]; omega
    ·obtain rfl : q = s.items.length := by omega
     clear hln;have HOV := LH (show OwnR sC 1 9 wr B (.slice Av s.items.length cv) (s.items.map showI) from by have := HOV.out; rw [List.take_length] at this; exact this)
     have hj := fun n => refjoin_any (s.items.map showI) (fun k => B ≤ k) (.slice Av s.items.length cv) (wr.drewN n) (((OwnR.wr HOV.out).row sC_len).keepAll (SR.drewN n)) (by rw [List.length_map]; omega) (fun x hx => by
      obtain ⟨y, hy, rfl⟩ := List.mem_map.1 hx
      exact Nat.le_trans (HLM.out y hy) (by omega))
     have hlen := hlenT;obtain ⟨D, hD⟩ : ∃ D, D = joinT [44, 32] (s.items.map showI) := ⟨_, rfl⟩;rw [← hD] at hj hlen;obtain ⟨Y1, hY1⟩ : ∃ Y : List UInt8, Y = [83, 69, 76, 69, 67, 84, 32] ++ D := ⟨_, rfl⟩;have lY1 : Y1.length = ([83, 69, 76, 69, 67, 84, 32] : List UInt8).length + (D : List UInt8).length := by rw [hY1, List.length_append]
     obtain ⟨Y2, hY2⟩ : ∃ Y : List UInt8, Y = Y1 ++ [32, 70, 82, 79, 77, 32] := ⟨_, rfl⟩;have lY2 : Y2.length = (Y1 : List UInt8).length + ([32, 70, 82, 79, 77, 32] : List UInt8).length := by rw [hY2, List.length_append]
     obtain ⟨Y3, hY3⟩ : ∃ Y : List UInt8, Y = Y2 ++ s.table := ⟨_, rfl⟩;have lY3 : Y3.length = (Y2 : List UInt8).length + (s.table : List UInt8).length := by rw [hY3, List.length_append]
     simp only [List.length_cons, List.length_nil] at lY1 lY2 lY3;have aY1 : ∀ w, (Op.stringOp .add ⟨#[83, 69, 76, 69, 67, 84, 32]⟩ (str D)).run Tryz.prog w = .ok (.string (str Y1)) w := fun w => hY1 ▸ add_str [83, 69, 76, 69, 67, 84, 32] D (by first | omega | (simp only [List.length_cons, List.length_nil]; omega)) w
     have aY2 : ∀ w, (Op.stringOp .add (str Y1) ⟨#[32, 70, 82, 79, 77, 32]⟩).run Tryz.prog w = .ok (.string (str Y2)) w := fun w => hY2 ▸ add_str Y1 [32, 70, 82, 79, 77, 32] (by first | omega | (simp only [List.length_cons, List.length_nil]; omega)) w
     have aY3 : ∀ w, (Op.stringOp .add (str Y2) (str s.table)).run Tryz.prog w = .ok (.string (str Y3)) w := fun w => hY3 ▸ add_str Y2 s.table (by first | omega | (simp only [List.length_cons, List.length_nil]; omega)) w
     have HB : Hid (Y3 = headS s) := LH (by rw [hY3, hY2, hY1, hD]; unfold headS; rw [if_pos HGO.out]; all_goals simp);have HL9 : Hid (Y3.length ≤ 2000000000) := LH (by omega);clear lY1 lY2 lY3 hlen hD hY1 hY2 hY3;have e1 := HROW.out.cell 1;simp only [LG] at e1;go_upto_region 10 with (fail);go_quiet ((go_at_call 55; exact Calls.quiet_of_same (hj _)));generalize hW : World.drewN wr _ = wR;have hS : Same (fun k => k < B) wr wR := hW ▸ SR.drewN _;clear hW hj;have HROW := LH (HROW.out.keep hS hgB);have HST := LH (stK.keep HST.out hS);have HG := LH (HG.out.trans hS);clear hS e1;go_wp2;go_meet;exact ⟨_, Y3, rfl, rfl, HB, HL9.out, HROW.out, HST.out, HG.out⟩
  have ek1 := int_eq_f hk1;by_cases hk2 : s.kind = 2
  ·have ek2 := int_eq_t hk2;have hmi := HMS.out.rows hk2;have hlenT := rows_len hmi HSI.out.rows;simp only [mayRows, Bool.and_eq_true, List.all_eq_true, decide_eq_true_eq] at hmi;have HLM : Hid (∀ y ∈ s.rows, (showR y).length ≤ 78643400) := LH fun y hy => showR_len (hmi.1.1 y hy) (HSI.out.rows y hy)
   have HMI := LH hmi.1.1;have hn6 := hmi.2;have HGO := LH hk2;clear hmi hk2 hk1;go_wp2;go_loopw [3, 6] (fun v i wr => ∃ q : Nat, i = .int .i64 (q : Int) ∧ q ≤ s.rows.length ∧ OwnR sC 1 9 wr B v ((s.rows.take q).map showR) ∧ Same (fun k => k < B) W0 wr ∧ B ≤ wr.heap.size) (fun _ i _ => s.rows.length - (intOf i).toNat)
   case atStart => exact ⟨0, rfl, Nat.zero_le _, OwnR.nil _ _, HG.out, hBz⟩
   case round =>
    rename World => wr
    obtain ⟨q, rfl, hq, hov, hG, hz⟩ := hrel;obtain ⟨Av, cv, rfl, hv1, hv2⟩ := hov.form;have hln : ((s.rows.take q).map showR).length = q := by rw [List.length_map, List.length_take]; omega
    rw [hln] at hov hv1 ⊢;unfold maxLen at hv2;have xq : (0 : Int) ≤ (q : Int) := by omega
    have HOV := LH hov;have HROW := LH (HR0.out.keep hG hgB);have HST := LH (stK.keep HS0.out hG);have HG := LH hG;clear hov hG;clear c0 c2 c3 c4;have c3 := HROW.out.cell 3;simp only [LG] at c3;by_cases hql : q < s.rows.length
    ·have yq : (q : Int) < (s.rows.length : Int) := by omega
     obtain ⟨ad, uq, rfl, hok, hcl⟩ := LsR.at_ (show LsR _ _ _ _ _ _ s.rows from HST.out.2.1) rwCs_len hql;obtain ⟨A_r, c_r, rfl, br, bc⟩ := (show ExL _ _ uq s.rows[q] from hok).form;unfold maxLen at bc;have d0 := hcl 0 (by omega);rw [add_zero, Nat.mul_one] at d0;simp only [rwCs, LG] at d0;have HR := LH (ls_exL.2 (show ExL _ _ _ s.rows[q] from hok));have hmr := HMI.out _ (List.getElem_mem hql);have HRR := LH hmr;simp only [mayRow, Bool.and_eq_true, List.all_eq_true, decide_eq_true_eq] at hmr;have HMR := LH hmr.2;have hn7 := hmr.1.2;have HIR := LH (HSI.out.rows _ (List.getElem_mem hql));have hadB : (ad.add q).block < wr.heap.size := World.block_lt_of_cell? wr _ d0;obtain ⟨r, hre⟩ : ∃ r, r = s.rows[q] := ⟨_, rfl⟩;have HRE := LH hre;clear hok hcl hmr;rw [← hre] at br d0 HR HRR HMR hn7 HIR;clear hre;obtain ⟨Bi, hBi⟩ : ∃ b, b = wr.heap.size := ⟨_, rfl⟩;have hBiz : Bi ≤ wr.heap.size := by omega
     have hBBi : B ≤ Bi := by omega
     have HBI := LH hBi;clear hBi;go_wp2;go_loopw [7, 8] (fun v i wi => ∃ p : Nat, i = .int .i64 (p : Int) ∧ p ≤ r.length ∧ OwnR sC 1 9 wi Bi v ((r.take p).map showE) ∧ Same (fun k => k < Bi) wr wi ∧ Bi ≤ wi.heap.size) (fun _ i _ => r.length - (intOf i).toNat)
     case atStart => exact ⟨0, rfl, Nat.zero_le _, OwnR.nil _ _, Same.refl _ _, hBiz⟩
     case round =>
      rename World => wi
      obtain ⟨p, rfl, hp, hoi, hGi, hzi⟩ := hrel;obtain ⟨Ai, ci, rfl, hi1, hi2⟩ := hoi.form;have hlni : ((r.take p).map showE).length = p := by rw [List.length_map, List.length_take]; omega
      rw [hlni] at hoi hi1 ⊢;unfold maxLen at hi2;have xp : (0 : Int) ≤ (p : Int) := by omega
      have HOI := LH hoi;have HGI := LH hGi;have hSB := hGi.mono (S' := (fun k => k < B)) fun k _ h => by omega
      have HROWi := LH (HROW.out.keep hSB hgB);have HRi := LH (HR.out.keep exK hSB);have k0 := hGi.cell (p := ad.add q) (show (ad.add q).block < Bi from by rw [HBI.out]; exact hadB) d0;clear hoi hGi hSB c3 d0;have c3 := HROWi.out.cell 3;simp only [LG] at c3;by_cases hpl : p < r.length
      ·have yp : (p : Int) < (r.length : Int) := by omega
       obtain ⟨adp, up, rfl, hok, hcl⟩ := LsR.at_ HRi.out exCsP_len hpl;obtain ⟨A_u, c_u, rfl, -, -⟩ := (show ExR _ _ up r[p] from hok).toL.form;have d0 := hcl 0 (by omega);rw [add_zero] at d0;have d1 := hcl 1 (by omega);rw [addr_add _ _ (by omega)] at d1;have d2 := hcl 2 (by omega);rw [addr_add _ _ (by omega)] at d2;have d3 := hcl 3 (by omega);rw [addr_add _ _ (by omega)] at d3;have d4 := hcl 4 (by omega);rw [addr_add _ _ (by omega)] at d4;have d5 := hcl 5 (by omega);rw [addr_add _ _ (by omega)] at d5;simp only [exCsP, exCs, LG] at d0 d1 d2 d3 d4 d5;have hx0 := ExR.mono (S' := fun _ => True) (show ExR _ _ _ r[p] from hok) (fun _ _ _ => tv);clear hok hcl;have ht := reftext_any r[p] 16 (.slice A_u r[p].args.length c_u) wi (by omega) (HMR.out _ (List.getElem_mem hpl)) (HIR.out _ (List.getElem_mem hpl)) hx0;clear hx0;go_wp2_with (go_at_call 56; refine stopAt ?_);unfold Hid;refine (show Calls _ _ _ _ _ from ht).mono ?_;rintro e w5 ⟨rfl, hS5⟩;have HOI5 := LH (HOI.out.keepAll hS5);have hz5 : Bi ≤ w5.heap.size := Nat.le_trans hzi hS5.size;have HGI5 := LH (HGI.out.trans (hS5.mono (S' := fun k => k < Bi) fun _ _ _ => tv));clear hS5 ht;go_wp2_with (at_builtin; refine stopAt ?_);unfold Hid;refine wpList_appR1 TSs sC_len (fun x u hu => by simp only [sC, List.mem_cons, List.not_mem_nil, or_false] at hu; rw [hu]; rfl) rfl (.tmp 59) (.tmp 69) rfl (f := sC) (B := Bi) (v := .slice Ai p ci) (l := (r.take p).map showE) (c := showE r[p]) rfl rfl rfl HOI5.out hz5 (by rw [hlni]; simp only [maxLen]; omega) (by rw [hlni]; omega) ?_;intro v9 w9 hO hS9
       have hO : OwnR sC 1 9 w9 Bi v9 ((r.take (p + 1)).map showE) := by
        rw [List.take_add_one, List.getElem?_eq_getElem hpl, List.map_append];exact hO
       obtain ⟨A9, c9, rfl, -, -⟩ := hO.form;have hln9 : ((r.take (p + 1)).map showE).length = p + 1 := by rw [List.length_map, List.length_take]; omega
       rw [hln9] at hO ⊢;have HO9 := LH hO;clear hO hln9;have HG9 := LH (HGI5.out.trans hS9);have hz9 : Bi ≤ w9.heap.size := Nat.le_trans hz5 hS9.size;clear hS9;go_wp2;go_roundw
       case rel => exact ⟨p + 1, by go_num, by omega, HO9.out, HG9.out, hz9⟩
       case measure => simp [intOf]; omega
      ·obtain rfl : p = r.length := by omega
       have HOI := LH (show OwnR sC 1 9 wi Bi (.slice Ai r.length ci) (r.map showE) from by have := HOI.out; rw [List.take_length] at this; exact this)
       have hj := refjoin_any (r.map showE) (fun k => Bi ≤ k) (.slice Ai r.length ci) wi ((OwnR.wr HOI.out).row sC_len) (by rw [List.length_map]; omega) (fun x hx => by
        obtain ⟨y, hy, rfl⟩ := List.mem_map.1 hx
        exact Nat.le_trans (showE_most (HMR.out y hy) (by omega) (HIR.out y hy)) (by omega))
       have hlen := rowT_len HRR.out HIR.out;obtain ⟨D, hD⟩ : ∃ D, D = joinT [44, 32] (r.map showE) := ⟨_, rfl⟩;rw [← hD] at hj hlen;obtain ⟨Y1, hY1⟩ : ∃ Y : List UInt8, Y = [40] ++ D := ⟨_, rfl⟩;have lY1 : Y1.length = ([40] : List UInt8).length + (D : List UInt8).length := by rw [hY1, List.length_append]
       obtain ⟨Y2, hY2⟩ : ∃ Y : List UInt8, Y = Y1 ++ [41] := ⟨_, rfl⟩;have lY2 : Y2.length = (Y1 : List UInt8).length + ([41] : List UInt8).length := by rw [hY2, List.length_append]
       simp only [List.length_cons, List.length_nil] at lY1 lY2;have aY1 : ∀ w, (Op.stringOp .add ⟨#[40]⟩ (str D)).run Tryz.prog w = .ok (.string (str Y1)) w := fun w => hY1 ▸ add_str [40] D (by first | omega | (simp only [List.length_cons, List.length_nil]; omega)) w
       have aY2 : ∀ w, (Op.stringOp .add (str Y1) ⟨#[41]⟩).run Tryz.prog w = .ok (.string (str Y2)) w := fun w => hY2 ▸ add_str Y1 [41] (by first | omega | (simp only [List.length_cons, List.length_nil]; omega)) w
       have hYR : Y2 = showR r := by rw [hY2, hY1, hD]; rfl
       have HYR := LH hYR;have hov2 := HOV.out.keep (S := fun k => k < Bi) HGI.out (fun k _ hk => by have := HBI.out; omega);have HOV2 := LH hov2;have hzB : B ≤ wi.heap.size := by omega
       have HGo := LH (HG.out.trans (HGI.out.mono (S' := (fun k => k < B)) fun k _ h => by omega));clear lY1 lY2 hlen hD hY1 hY2 hlni hov2 hYR;go_wp2_with (go_at_call 55; refine stopAt ?_);unfold Hid;refine (show Calls _ _ _ _ _ from hj).mono ?_;rintro e w5 ⟨rfl, rfl⟩;clear hj;go_wp2_with (at_builtin; refine stopAt ?_);unfold Hid;refine wpList_appR1 TSs sC_len (fun x u hu => by simp only [sC, List.mem_cons, List.not_mem_nil, or_false] at hu; rw [hu]; rfl) rfl (.tmp 71) (.tmp 76) rfl (f := sC) (B := B) (v := .slice Av q cv) (l := (s.rows.take q).map showR) (c := Y2) rfl rfl rfl HOV2.out hzB (by rw [hln]; simp only [maxLen]; omega) (by rw [hln]; omega) ?_;intro v9 w9 hO hS9;rw [HYR.out, HRE.out] at hO
       have hO : OwnR sC 1 9 w9 B v9 ((s.rows.take (q + 1)).map showR) := by
        rw [List.take_add_one, List.getElem?_eq_getElem hql, List.map_append];exact hO
       obtain ⟨A9, c9, rfl, -, -⟩ := hO.form;have hln9 : ((s.rows.take (q + 1)).map showR).length = q + 1 := by rw [List.length_map, List.length_take]; omega
       rw [hln9] at hO ⊢;have HO9 := LH hO;clear hO hln9;have HG9 := LH (HGo.out.trans hS9);have hz9 : B ≤ w9.heap.size := Nat.le_trans hzB hS9.size;clear hS9;go_wp2;go_roundw
       case rel => exact ⟨q + 1, by go_num, by omega, HO9.out, HG9.out, hz9⟩
       case measure => simp [intOf]; omega
    ·obtain rfl : q = s.rows.length := by omega
     clear hln;have HOV := LH (show OwnR sC 1 9 wr B (.slice Av s.rows.length cv) (s.rows.map showR) from by have := HOV.out; rw [List.take_length] at this; exact this)
     have hj := fun n => refjoin_any (s.rows.map showR) (fun k => B ≤ k) (.slice Av s.rows.length cv) (wr.drewN n) (((OwnR.wr HOV.out).row sC_len).keepAll (SR.drewN n)) (by rw [List.length_map]; omega) (fun x hx => by
      obtain ⟨y, hy, rfl⟩ := List.mem_map.1 hx
      exact Nat.le_trans (HLM.out y hy) (by omega))
     have hlen := hlenT;obtain ⟨D, hD⟩ : ∃ D, D = joinT [44, 32] (s.rows.map showR) := ⟨_, rfl⟩;rw [← hD] at hj hlen;obtain ⟨Y1, hY1⟩ : ∃ Y : List UInt8, Y = [73, 78, 83, 69, 82, 84, 32, 73, 78, 84, 79, 32] ++ s.table := ⟨_, rfl⟩;have lY1 : Y1.length = ([73, 78, 83, 69, 82, 84, 32, 73, 78, 84, 79, 32] : List UInt8).length + (s.table : List UInt8).length := by rw [hY1, List.length_append]
     obtain ⟨Y2, hY2⟩ : ∃ Y : List UInt8, Y = Y1 ++ [32, 86, 65, 76, 85, 69, 83, 32] := ⟨_, rfl⟩;have lY2 : Y2.length = (Y1 : List UInt8).length + ([32, 86, 65, 76, 85, 69, 83, 32] : List UInt8).length := by rw [hY2, List.length_append]
     obtain ⟨Y3, hY3⟩ : ∃ Y : List UInt8, Y = Y2 ++ D := ⟨_, rfl⟩;have lY3 : Y3.length = (Y2 : List UInt8).length + (D : List UInt8).length := by rw [hY3, List.length_append]
     simp only [List.length_cons, List.length_nil] at lY1 lY2 lY3;have aY1 : ∀ w, (Op.stringOp .add ⟨#[73, 78, 83, 69, 82, 84, 32, 73, 78, 84, 79, 32]⟩ (str s.table)).run Tryz.prog w = .ok (.string (str Y1)) w := fun w => hY1 ▸ add_str [73, 78, 83, 69, 82, 84, 32, 73, 78, 84, 79, 32] s.table (by first | omega | (simp only [List.length_cons, List.length_nil]; omega)) w
     have aY2 : ∀ w, (Op.stringOp .add (str Y1) ⟨#[32, 86, 65, 76, 85, 69, 83, 32]⟩).run Tryz.prog w = .ok (.string (str Y2)) w := fun w => hY2 ▸ add_str Y1 [32, 86, 65, 76, 85, 69, 83, 32] (by first | omega | (simp only [List.length_cons, List.length_nil]; omega)) w
     have aY3 : ∀ w, (Op.stringOp .add (str Y2) (str D)).run Tryz.prog w = .ok (.string (str Y3)) w := fun w => hY3 ▸ add_str Y2 D (by first | omega | (simp only [List.length_cons, List.length_nil]; omega)) w
     have HB : Hid (Y3 = headS s) := LH (by rw [hY3, hY2, hY1, hD]; unfold headS; rw [if_neg (show ¬ s.kind = 1 by have := HGO.out; omega), if_pos HGO.out]; all_goals simp);have HL9 : Hid (Y3.length ≤ 2000000000) := LH (by omega);clear lY1 lY2 lY3 hlen hD hY1 hY2 hY3;have e1 := HROW.out.cell 1;simp only [LG] at e1;go_upto_region 21 with (fail);go_quiet ((go_at_call 55; exact Calls.quiet_of_same (hj _)));generalize hW : World.drewN wr _ = wR;have hS : Same (fun k => k < B) wr wR := hW ▸ SR.drewN _;clear hW hj;have HROW := LH (HROW.out.keep hS hgB);have HST := LH (stK.keep HST.out hS);have HG := LH (HG.out.trans hS);clear hS e1;go_wp2;go_meet;exact ⟨_, Y3, rfl, rfl, HB, HL9.out, HROW.out, HST.out, HG.out⟩
  have ek2 := int_eq_f hk2;by_cases hk3 : s.kind = 3
  ·have ek3 := int_eq_t hk3;have hmi := HMS.out.sets hk3;have hlenT := sets_len hmi HSI.out.sets;simp only [maySets, Bool.and_eq_true, List.all_eq_true, decide_eq_true_eq] at hmi;have HLM : Hid (∀ y ∈ s.sets, (showA y).length ≤ 13107300) := LH fun y hy => showA_len (hmi.2 y hy).1 (hmi.2 y hy).2 (HSI.out.sets y hy)
   have HMI := LH hmi.2;have hn6 := hmi.1.2;have HGO := LH hk3;clear hmi hk3 hk1 hk2;go_wp2;go_loopw [3, 9] (fun v i wr => ∃ q : Nat, i = .int .i64 (q : Int) ∧ q ≤ s.sets.length ∧ OwnR sC 1 9 wr B v ((s.sets.take q).map showA) ∧ Same (fun k => k < B) W0 wr ∧ B ≤ wr.heap.size) (fun _ i _ => s.sets.length - (intOf i).toNat)
   case atStart => exact ⟨0, rfl, Nat.zero_le _, OwnR.nil _ _, HG.out, hBz⟩
   case round =>
    rename World => wr
    obtain ⟨q, rfl, hq, hov, hG, hz⟩ := hrel;obtain ⟨Av, cv, rfl, hv1, hv2⟩ := hov.form;have hln : ((s.sets.take q).map showA).length = q := by rw [List.length_map, List.length_take]; omega
    rw [hln] at hov hv1 ⊢;unfold maxLen at hv2;have xq : (0 : Int) ≤ (q : Int) := by omega
    have HOV := LH hov;have HROW := LH (HR0.out.keep hG hgB);have HST := LH (stK.keep HS0.out hG);have HG := LH hG;clear hov hG;clear c0 c2 c3 c4;have c4 := HROW.out.cell 4;simp only [LG] at c4;by_cases hql : q < s.sets.length
    ·have yq : (q : Int) < (s.sets.length : Int) := by omega
     obtain ⟨ad, uq, rfl, hok, hcl⟩ := LsR.at_ (show LsR _ _ _ _ _ _ s.sets from HST.out.2.2.1) asCs_len hql;obtain ⟨A_u, c_u, rfl, -, -⟩ := (show ExR _ _ uq s.sets[q].e from hok).toL.form;have d0 := hcl 0 (by omega);rw [add_zero] at d0;have d1 := hcl 1 (by omega);rw [addr_add _ _ (by omega)] at d1;have d2 := hcl 2 (by omega);rw [addr_add _ _ (by omega)] at d2;have d3 := hcl 3 (by omega);rw [addr_add _ _ (by omega)] at d3;have d4 := hcl 4 (by omega);rw [addr_add _ _ (by omega)] at d4;have d5 := hcl 5 (by omega);rw [addr_add _ _ (by omega)] at d5;have d6 := hcl 6 (by omega);rw [addr_add _ _ (by omega)] at d6;simp only [asCs, exCs, LG] at d0 d1 d2 d3 d4 d5 d6;have hx0 := ExR.mono (S' := fun _ => True) (show ExR _ _ _ s.sets[q].e from hok) (fun _ _ _ => tv);clear hok hcl;have hm9 := HMI.out _ (List.getElem_mem hql);have hi9 := HSI.out.sets _ (List.getElem_mem hql);have hlw := word_len hm9.1;have hle := showE_most hm9.2 (by omega) hi9;obtain ⟨v1, hve⟩ : ∃ v, v = s.sets[q] := ⟨_, rfl⟩;have HVE := LH hve;rw [← hve] at d0 d1 d2 d3 d4 d5 d6 hx0 hm9 hi9 hlw hle;clear hve;have gA : ∀ W, Same (fun _ => True) wr W → Calls Tryz.prog 56 #[exV (.slice A_u v1.e.args.length c_u) v1.e] W (TextP (showE v1.e) W) := fun W h => reftext_any v1.e 16 _ W (by omega) hm9.2 hi9 (hx0.keepAll h)
     obtain ⟨D, hD⟩ : ∃ D, D = showE v1.e := ⟨_, rfl⟩;rw [← hD] at gA hle;obtain ⟨Y1, hY1⟩ : ∃ Y : List UInt8, Y = v1.name ++ [32, 61, 32] := ⟨_, rfl⟩;have lY1 : Y1.length = (v1.name : List UInt8).length + ([32, 61, 32] : List UInt8).length := by rw [hY1, List.length_append]
     obtain ⟨Y2, hY2⟩ : ∃ Y : List UInt8, Y = Y1 ++ D := ⟨_, rfl⟩;have lY2 : Y2.length = (Y1 : List UInt8).length + (D : List UInt8).length := by rw [hY2, List.length_append]
     simp only [List.length_cons, List.length_nil] at lY1 lY2;have aY1 : ∀ w, (Op.stringOp .add (str v1.name) ⟨#[32, 61, 32]⟩).run Tryz.prog w = .ok (.string (str Y1)) w := fun w => hY1 ▸ add_str v1.name [32, 61, 32] (by first | omega | (simp only [List.length_cons, List.length_nil]; omega)) w
     have aY2 : ∀ w, (Op.stringOp .add (str Y1) (str D)).run Tryz.prog w = .ok (.string (str Y2)) w := fun w => hY2 ▸ add_str Y1 D (by first | omega | (simp only [List.length_cons, List.length_nil]; omega)) w
     have hYR : Y2 = showA v1 := by rw [hY2, hY1, hD]; rfl
     have HYR := LH hYR;clear lY1 lY2 hlw hle hD hY1 hY2 hYR hm9 hi9 hx0;go_upto_region 26 with (fail);refine wp_region_tail_d (L := [.eq (.slice Av q cv), .eq (.pointer (some ⟨g, 4, none⟩)), .eq (.slice (some ad) s.sets.length y3_), .eq (.int .i64 (q : Int)), .eq (.pointer (some (ad.add (q * 7)))), .eq (.pointer (some (ad.add (q * 7)))), .eq (.string (str v1.name)), .eq (.string (str Y1)), .eq (.pointer (some ⟨g, 4, none⟩)), .eq (.slice (some ad) s.sets.length y3_), .eq (.int .i64 (q : Int)), .eq (.pointer (some (ad.add (q * 7)))), .eq (.pointer (some ⟨(ad.add (q * 7)).block, (ad.add (q * 7)).off + 1, none⟩)), .eq (.agg #[.int .i64 v1.e.kind, .string (str v1.e.s), .int .i64 v1.e.v.kind, .int .i64 v1.e.v.n, .string (str v1.e.v.s), .slice A_u v1.e.args.length c_u]), .eq (.string (str D)), .eq (.string (str Y2))]) 16 0 (by omega) (by kernel_rfl) (by kernel_rfl) rfl rfl rfl rfl rfl rfl ?_ ?_ ?_
     ·refine ⟨?_, ?_, ?_, ?_, ?_, ?_, ?_, ?_, ?_, ?_, ?_, ?_, ?_, ?_, ?_, ?_, tv⟩
      all_goals intro ac wc hs hd hz hf hw K hK
      ·have e0 := EV 3 (.slice Av q cv) (hf 3 rfl);clear hd hz hf hw;simp only [if_true, RL, e0];go_simp;exact hK _ _ rfl SR
      ·have e0 := EP 1 g 0 (hf 1 rfl);clear hd hz hf hw;simp only [if_true, RL, e0];go_simp;exact hK _ _ rfl SR
      ·have e0 := EP 95 g 4 (hw 1 rfl);have m0 := MC c4 hs tv;clear hd hz hf hw;simp only [if_true, RL, e0];go_simp;exact hK _ _ rfl SR
      ·have e0 := EV 9 (.int .i64 (q : Int)) (hf 9 rfl);clear hd hz hf hw;simp only [if_true, RL, e0];go_simp;exact hK _ _ rfl SR
      ·have e0 := EV 96 (.slice (some ad) s.sets.length y3_) (hw 2 rfl);have e1 := EV 97 (.int .i64 (q : Int)) (hw 3 rfl);clear hd hz hf hw;simp only [if_true, RL, e0, e1];go_simp;exact hK _ _ rfl SR
      ·have e0 := EV 98 (.pointer (some (ad.add (q * 7)))) (hw 4 rfl);clear hd hz hf hw;simp only [if_true, RL, e0];go_simp;exact hK _ _ rfl SR
      ·have e0 := EV 99 (.pointer (some (ad.add (q * 7)))) (hw 5 rfl);have m0 := MC d0 hs tv;clear hd hz hf hw;simp only [if_true, RL, e0];go_simp;exact hK _ _ rfl SR
      ·have e0 := EV 100 (.string (str v1.name)) (hw 6 rfl);clear hd hz hf hw;simp only [if_true, RL, e0];go_simp;exact hK _ _ rfl SR
      ·have e0 := EP 1 g 0 (hf 1 rfl);clear hd hz hf hw;simp only [if_true, RL, e0];go_simp;exact hK _ _ rfl SR
      ·have e0 := EP 102 g 4 (hw 8 rfl);have m0 := MC c4 hs tv;clear hd hz hf hw;simp only [if_true, RL, e0];go_simp;exact hK _ _ rfl SR
      ·have e0 := EV 9 (.int .i64 (q : Int)) (hf 9 rfl);clear hd hz hf hw;simp only [if_true, RL, e0];go_simp;exact hK _ _ rfl SR
      ·have e0 := EV 103 (.slice (some ad) s.sets.length y3_) (hw 9 rfl);have e1 := EV 104 (.int .i64 (q : Int)) (hw 10 rfl);clear hd hz hf hw;simp only [if_true, RL, e0, e1];go_simp;exact hK _ _ rfl SR
      ·have e0 := EV 105 (.pointer (some (ad.add (q * 7)))) (hw 11 rfl);clear hd hz hf hw;simp only [if_true, RL, e0];go_simp;exact hK _ _ rfl SR
      ·have e0 : ac.eval (.tmp 106) = (.pointer (some ⟨(ad.add (q * 7)).block, (ad.add (q * 7)).off + 1, none⟩)) := hw 12 rfl;have m0 := MC d1 hs tv;have m1 := MC d2 hs tv;have m2 := MC d3 hs tv;have m3 := MC d4 hs tv;have m4 := MC d5 hs tv;have m5 := MC d6 hs tv;clear hd hz hf hw;simp only [if_true, RL, e0];go_simp;exact hK _ _ rfl SR
      ·have e0 := EV 107 (.agg #[.int .i64 v1.e.kind, .string (str v1.e.s), .int .i64 v1.e.v.kind, .int .i64 v1.e.v.n, .string (str v1.e.v.s), .slice A_u v1.e.args.length c_u]) (hw 13 rfl);clear hd hz hf hw;simp only [if_true, RL, e0];go_simp;refine (gA _ hs).mono ?_;rintro e wd ⟨rfl, hs2⟩;exact hK _ _ rfl hs2
      ·have e0 := EV 101 (.string (str Y1)) (hw 7 rfl);have e1 := EV 108 (.string (str D)) (hw 14 rfl);clear hd hz hf hw;simp only [if_true, RL, e0, e1];go_simp;exact hK _ _ rfl SR
     ·intro vs wR hvl hvp hsR;obtain ⟨z0, z1, z2, z3, z4, z5, z6, z7, z8, z9, z10, z11, z12, z13, z14, z15, rfl⟩ := LN16 hvl
      ·obtain rfl : z0 = (.slice Av q cv) := hvp 0 (by omega);obtain rfl : z1 = (.pointer (some ⟨g, 4, none⟩)) := hvp 1 (by omega);obtain rfl : z2 = (.slice (some ad) s.sets.length y3_) := hvp 2 (by omega);obtain rfl : z3 = (.int .i64 (q : Int)) := hvp 3 (by omega);obtain rfl : z4 = (.pointer (some (ad.add (q * 7)))) := hvp 4 (by omega);obtain rfl : z5 = (.pointer (some (ad.add (q * 7)))) := hvp 5 (by omega);obtain rfl : z6 = (.string (str v1.name)) := hvp 6 (by omega);obtain rfl : z7 = (.string (str Y1)) := hvp 7 (by omega);obtain rfl : z8 = (.pointer (some ⟨g, 4, none⟩)) := hvp 8 (by omega);obtain rfl : z9 = (.slice (some ad) s.sets.length y3_) := hvp 9 (by omega);obtain rfl : z10 = (.int .i64 (q : Int)) := hvp 10 (by omega);obtain rfl : z11 = (.pointer (some (ad.add (q * 7)))) := hvp 11 (by omega);obtain rfl : z12 = (.pointer (some ⟨(ad.add (q * 7)).block, (ad.add (q * 7)).off + 1, none⟩)) := hvp 12 (by omega);obtain rfl : z13 = (.agg #[.int .i64 v1.e.kind, .string (str v1.e.s), .int .i64 v1.e.v.kind, .int .i64 v1.e.v.n, .string (str v1.e.v.s), .slice A_u v1.e.args.length c_u]) := hvp 13 (by omega);obtain rfl : z14 = (.string (str D)) := hvp 14 (by omega);obtain rfl : z15 = (.string (str Y2)) := hvp 15 (by omega);clear hvl hvp;simp only [putAll, Act.put, LP, List.eraseIdx_cons_succ, List.eraseIdx_cons_zero];have HOV5 := LH (HOV.out.keepAll hsR);have hz5 : B ≤ wR.heap.size := Nat.le_trans hz hsR.size;have HG5 := LH (HG.out.trans (hsR.mono (S' := (fun k => k < B)) fun _ _ _ => tv));clear hsR;go_wp2_with (at_builtin; refine stopAt ?_);unfold Hid;refine wpList_appR1 TSs sC_len (fun x u hu => by simp only [sC, List.mem_cons, List.not_mem_nil, or_false] at hu; rw [hu]; rfl) rfl (.tmp 94) (.tmp 110) rfl (f := sC) (B := B) (v := .slice Av q cv) (l := (s.sets.take q).map showA) (c := Y2) rfl rfl rfl HOV5.out hz5 (by rw [hln]; simp only [maxLen]; omega) (by rw [hln]; omega) ?_;intro v9 w9 hO hS9;rw [HYR.out, HVE.out] at hO
       have hO : OwnR sC 1 9 w9 B v9 ((s.sets.take (q + 1)).map showA) := by
        rw [List.take_add_one, List.getElem?_eq_getElem hql, List.map_append];exact hO
       obtain ⟨A9, c9, rfl, -, -⟩ := hO.form;have hln9 : ((s.sets.take (q + 1)).map showA).length = q + 1 := by rw [List.length_map, List.length_take]; omega
       rw [hln9] at hO ⊢;have HO9 := LH hO;clear hO hln9;have HG9 := LH (HG5.out.trans hS9);have hz9 : B ≤ w9.heap.size := Nat.le_trans hz5 hS9.size;clear hS9;go_wp2;go_roundw
       case rel => exact ⟨q + 1, by go_num, by omega, HO9.out, HG9.out, hz9⟩
       case measure => simp [intOf]; omega
     ·intro vs wR hvl hvp hsR;obtain ⟨z1, z2, z3, z4, z5, z6, z7, z8, z9, z10, z11, z12, z13, z14, z15, rfl⟩ := LN15 hvl
      ·obtain rfl : z1 = (.pointer (some ⟨g, 4, none⟩)) := hvp 0 (by omega);obtain rfl : z2 = (.slice (some ad) s.sets.length y3_) := hvp 1 (by omega);obtain rfl : z3 = (.int .i64 (q : Int)) := hvp 2 (by omega);obtain rfl : z4 = (.pointer (some (ad.add (q * 7)))) := hvp 3 (by omega);obtain rfl : z5 = (.pointer (some (ad.add (q * 7)))) := hvp 4 (by omega);obtain rfl : z6 = (.string (str v1.name)) := hvp 5 (by omega);obtain rfl : z7 = (.string (str Y1)) := hvp 6 (by omega);obtain rfl : z8 = (.pointer (some ⟨g, 4, none⟩)) := hvp 7 (by omega);obtain rfl : z9 = (.slice (some ad) s.sets.length y3_) := hvp 8 (by omega);obtain rfl : z10 = (.int .i64 (q : Int)) := hvp 9 (by omega);obtain rfl : z11 = (.pointer (some (ad.add (q * 7)))) := hvp 10 (by omega);obtain rfl : z12 = (.pointer (some ⟨(ad.add (q * 7)).block, (ad.add (q * 7)).off + 1, none⟩)) := hvp 11 (by omega);obtain rfl : z13 = (.agg #[.int .i64 v1.e.kind, .string (str v1.e.s), .int .i64 v1.e.v.kind, .int .i64 v1.e.v.n, .string (str v1.e.v.s), .slice A_u v1.e.args.length c_u]) := hvp 12 (by omega);obtain rfl : z14 = (.string (str D)) := hvp 13 (by omega);obtain rfl : z15 = (.string (str Y2)) := hvp 14 (by omega);clear hvl hvp;simp only [putAll, Act.put, LP, List.eraseIdx_cons_succ, List.eraseIdx_cons_zero];have HOV5 := LH (HOV.out.keepAll hsR);have hz5 : B ≤ wR.heap.size := Nat.le_trans hz hsR.size;have HG5 := LH (HG.out.trans (hsR.mono (S' := (fun k => k < B)) fun _ _ _ => tv));clear hsR;go_wp2_with (at_builtin; refine stopAt ?_);unfold Hid;refine wpList_appR1 TSs sC_len (fun x u hu => by simp only [sC, List.mem_cons, List.not_mem_nil, or_false] at hu; rw [hu]; rfl) rfl (.tmp 94) (.tmp 110) rfl (f := sC) (B := B) (v := .slice Av q cv) (l := (s.sets.take q).map showA) (c := Y2) rfl rfl rfl HOV5.out hz5 (by rw [hln]; simp only [maxLen]; omega) (by rw [hln]; omega) ?_;intro v9 w9 hO hS9;rw [HYR.out, HVE.out] at hO
       have hO : OwnR sC 1 9 w9 B v9 ((s.sets.take (q + 1)).map showA) := by
        rw [List.take_add_one, List.getElem?_eq_getElem hql, List.map_append];exact hO
       obtain ⟨A9, c9, rfl, -, -⟩ := hO.form;have hln9 : ((s.sets.take (q + 1)).map showA).length = q + 1 := by rw [List.length_map, List.length_take]; omega
       rw [hln9] at hO ⊢;have HO9 := LH hO;clear hO hln9;have HG9 := LH (HG5.out.trans hS9);have hz9 : B ≤ w9.heap.size := Nat.le_trans hz5 hS9.size;clear hS9;go_wp2;go_roundw
       case rel => exact ⟨q + 1, by go_num, by omega, HO9.out, HG9.out, hz9⟩
       case measure => simp [intOf]; omega
    ·obtain rfl : q = s.sets.length := by omega
     clear hln;have HOV := LH (show OwnR sC 1 9 wr B (.slice Av s.sets.length cv) (s.sets.map showA) from by have := HOV.out; rw [List.take_length] at this; exact this)
     have hj := fun n => refjoin_any (s.sets.map showA) (fun k => B ≤ k) (.slice Av s.sets.length cv) (wr.drewN n) (((OwnR.wr HOV.out).row sC_len).keepAll (SR.drewN n)) (by rw [List.length_map]; omega) (fun x hx => by
      obtain ⟨y, hy, rfl⟩ := List.mem_map.1 hx
      exact Nat.le_trans (HLM.out y hy) (by omega))
     have hlen := hlenT;obtain ⟨D, hD⟩ : ∃ D, D = joinT [44, 32] (s.sets.map showA) := ⟨_, rfl⟩;rw [← hD] at hj hlen;obtain ⟨Y1, hY1⟩ : ∃ Y : List UInt8, Y = [85, 80, 68, 65, 84, 69, 32] ++ s.table := ⟨_, rfl⟩;have lY1 : Y1.length = ([85, 80, 68, 65, 84, 69, 32] : List UInt8).length + (s.table : List UInt8).length := by rw [hY1, List.length_append]
     obtain ⟨Y2, hY2⟩ : ∃ Y : List UInt8, Y = Y1 ++ [32, 83, 69, 84, 32] := ⟨_, rfl⟩;have lY2 : Y2.length = (Y1 : List UInt8).length + ([32, 83, 69, 84, 32] : List UInt8).length := by rw [hY2, List.length_append]
     obtain ⟨Y3, hY3⟩ : ∃ Y : List UInt8, Y = Y2 ++ D := ⟨_, rfl⟩;have lY3 : Y3.length = (Y2 : List UInt8).length + (D : List UInt8).length := by rw [hY3, List.length_append]
     simp only [List.length_cons, List.length_nil] at lY1 lY2 lY3;have aY1 : ∀ w, (Op.stringOp .add ⟨#[85, 80, 68, 65, 84, 69, 32]⟩ (str s.table)).run Tryz.prog w = .ok (.string (str Y1)) w := fun w => hY1 ▸ add_str [85, 80, 68, 65, 84, 69, 32] s.table (by first | omega | (simp only [List.length_cons, List.length_nil]; omega)) w
     have aY2 : ∀ w, (Op.stringOp .add (str Y1) ⟨#[32, 83, 69, 84, 32]⟩).run Tryz.prog w = .ok (.string (str Y2)) w := fun w => hY2 ▸ add_str Y1 [32, 83, 69, 84, 32] (by first | omega | (simp only [List.length_cons, List.length_nil]; omega)) w
     have aY3 : ∀ w, (Op.stringOp .add (str Y2) (str D)).run Tryz.prog w = .ok (.string (str Y3)) w := fun w => hY3 ▸ add_str Y2 D (by first | omega | (simp only [List.length_cons, List.length_nil]; omega)) w
     have HB : Hid (Y3 = headS s) := LH (by rw [hY3, hY2, hY1, hD]; unfold headS; rw [if_neg (show ¬ s.kind = 1 by have := HGO.out; omega), if_neg (show ¬ s.kind = 2 by have := HGO.out; omega), if_pos HGO.out]; all_goals simp);have HL9 : Hid (Y3.length ≤ 2000000000) := LH (by omega);clear lY1 lY2 lY3 hlen hD hY1 hY2 hY3;have e1 := HROW.out.cell 1;simp only [LG] at e1;go_upto_region 27 with (fail);go_quiet ((go_at_call 55; exact Calls.quiet_of_same (hj _)));generalize hW : World.drewN wr _ = wR;have hS : Same (fun k => k < B) wr wR := hW ▸ SR.drewN _;clear hW hj;have HROW := LH (HROW.out.keep hS hgB);have HST := LH (stK.keep HST.out hS);have HG := LH (HG.out.trans hS);clear hS e1;go_wp2;go_meet;exact ⟨_, Y3, rfl, rfl, HB, HL9.out, HROW.out, HST.out, HG.out⟩
  obtain ⟨Y3, hY3⟩ : ∃ Y : List UInt8, Y = [68, 69, 76, 69, 84, 69, 32, 70, 82, 79, 77, 32] ++ s.table := ⟨_, rfl⟩;have lY3 : Y3.length = ([68, 69, 76, 69, 84, 69, 32, 70, 82, 79, 77, 32] : List UInt8).length + (s.table : List UInt8).length := by rw [hY3, List.length_append]
  simp only [List.length_cons, List.length_nil] at lY3;have aY3 : ∀ w, (Op.stringOp .add ⟨#[68, 69, 76, 69, 84, 69, 32, 70, 82, 79, 77, 32]⟩ (str s.table)).run Tryz.prog w = .ok (.string (str Y3)) w := fun w => hY3 ▸ add_str [68, 69, 76, 69, 84, 69, 32, 70, 82, 79, 77, 32] s.table (by first | omega | (simp only [List.length_cons, List.length_nil]; omega)) w
  have HB : Hid (Y3 = headS s) := LH (by rw [hY3]; unfold headS; rw [if_neg hk1, if_neg hk2, if_neg hk3]);have HL9 : Hid (Y3.length ≤ 2000000000) := LH (by omega);have ek1 := int_eq_f hk1;have ek2 := int_eq_f hk2;have ek3 := int_eq_f hk3;clear lY3 hY3 hk1 hk2 hk3;go_wp2;go_meet;exact ⟨_, Y3, rfl, rfl, HB, HL9.out, HROW.out, HST.out, HG.out⟩
 case rest =>
 clear HROW HST HG HR0 HS0 hBz c0 c1 c2 c3 c4;obtain ⟨W1, H1, rfl, rfl, HH1, hl1, hrow, hst, hg9⟩ := hcut;have HROW := LH hrow;have HST := LH hst;have HG := LH hg9;clear hrow hst hg9;have c5 := HROW.out.cell 5;have c6 := HROW.out.cell 6;have c7 := HROW.out.cell 7;have c8 := HROW.out.cell 8;have c9 := HROW.out.cell 9;have c10 := HROW.out.cell 10;have c11 := HROW.out.cell 11;simp only [LG] at c5 c6 c7 c8 c9 c10 c11;go_upto_if 120 with (fail);go_cut [4] from 119 to 126 (fun v wx => ∃ (W : World) (H : List UInt8), W = wx ∧ v = .string (str H) ∧ Hid (H = headS s ++ p1S s) ∧ H.length ≤ 2020000000 ∧ Row W g 44 [.int .i64 s.kind, .string (str s.table), .slice A1 s.items.length y1_, .slice A2 s.rows.length y2_, .slice A3 s.sets.length y3_, .bool s.filt, .int .i64 s.cond.kind, .string (str s.cond.s), .int .i64 s.cond.v.kind, .int .i64 s.cond.v.n, .string (str s.cond.v.s), .slice A4 s.cond.args.length y4_, .string (str s.order), .bool s.down, .int .i64 s.limit] ∧ StR W (fun k => k < B) ⟨.slice A1 s.items.length y1_, .slice A2 s.rows.length y2_, .slice A3 s.sets.length y3_, .slice A4 s.cond.args.length y4_⟩ s ∧ Same (fun k => k < B) W0 W)
 case first =>
  cases hft : s.filt
  ·have HB : Hid (H1 = headS s ++ p1S s) := LH (by unfold p1S; rw [HH1.out, hft]; simp);have HL9 : Hid (H1.length ≤ 2020000000) := LH (by omega);clear hft;go_wp2;go_meet;exact ⟨_, H1, rfl, rfl, HB, HL9.out, HROW.out, HST.out, HG.out⟩
  ·have ht := reftext_any s.cond 16 (.slice A4 s.cond.args.length y4_) W1 (by omega) (HMS.out.cond hft) HSI.out.cond (ExR.mono HST.out.2.2.2 fun _ _ _ => tv);have hlen := showE_most (HMS.out.cond hft) (by omega) HSI.out.cond;obtain ⟨D, hD⟩ : ∃ D, D = showE s.cond := ⟨_, rfl⟩;rw [← hD] at ht hlen;obtain ⟨Y1, hY1⟩ : ∃ Y : List UInt8, Y = H1 ++ [32, 87, 72, 69, 82, 69, 32] := ⟨_, rfl⟩;have lY1 : Y1.length = (H1 : List UInt8).length + ([32, 87, 72, 69, 82, 69, 32] : List UInt8).length := by rw [hY1, List.length_append]
   obtain ⟨Y2, hY2⟩ : ∃ Y : List UInt8, Y = Y1 ++ D := ⟨_, rfl⟩;have lY2 : Y2.length = (Y1 : List UInt8).length + (D : List UInt8).length := by rw [hY2, List.length_append]
   simp only [List.length_cons, List.length_nil] at lY1 lY2;have aY1 : ∀ w, (Op.stringOp .add (str H1) ⟨#[32, 87, 72, 69, 82, 69, 32]⟩).run Tryz.prog w = .ok (.string (str Y1)) w := fun w => hY1 ▸ add_str H1 [32, 87, 72, 69, 82, 69, 32] (by first | omega | (simp only [List.length_cons, List.length_nil]; omega)) w
   have aY2 : ∀ w, (Op.stringOp .add (str Y1) (str D)).run Tryz.prog w = .ok (.string (str Y2)) w := fun w => hY2 ▸ add_str Y1 D (by first | omega | (simp only [List.length_cons, List.length_nil]; omega)) w
   have HB : Hid (Y2 = headS s ++ p1S s) := LH (by unfold p1S; rw [hY2, hY1, HH1.out, hD, hft]; simp);have HL9 : Hid (Y2.length ≤ 2020000000) := LH (by omega);clear hft hlen hD hY1 hY2 lY1 lY2;go_wp2_with (go_at_call 56; refine stopAt ?_);unfold Hid;refine (show Calls _ _ _ _ _ from ht).mono ?_;rintro e w2 ⟨rfl, hS5⟩;have hS := hS5.mono (S' := (fun k => k < B)) fun _ _ _ => tv
   have HROW := LH (HROW.out.keep hS hgB);have HST := LH (stK.keep HST.out hS);have HG := LH (HG.out.trans hS);clear hS hS5 ht c5 c6 c7 c8 c9 c10 c11;go_wp2;go_meet;exact ⟨_, Y2, rfl, rfl, HB, HL9.out, HROW.out, HST.out, HG.out⟩
 case rest =>
 clear HROW HST HG c5 c6 c7 c8 c9 c10 c11;obtain ⟨W2, H2, rfl, rfl, HH2, hl2, hrow, hst, hg9⟩ := hcut;have HROW := LH hrow;have HST := LH hst;have HG := LH hg9;clear hrow hst hg9;have c12 := HROW.out.cell 12;simp only [LG] at c12;go_upto_if 129 with (fail);go_cut [4] from 127 to 134 (fun v wx => ∃ (W : World) (H : List UInt8), W = wx ∧ v = .string (str H) ∧ Hid (H = headS s ++ p1S s ++ p2S s) ∧ H.length ≤ 2020000100 ∧ Row W g 44 [.int .i64 s.kind, .string (str s.table), .slice A1 s.items.length y1_, .slice A2 s.rows.length y2_, .slice A3 s.sets.length y3_, .bool s.filt, .int .i64 s.cond.kind, .string (str s.cond.s), .int .i64 s.cond.v.kind, .int .i64 s.cond.v.n, .string (str s.cond.v.s), .slice A4 s.cond.args.length y4_, .string (str s.order), .bool s.down, .int .i64 s.limit] ∧ StR W (fun k => k < B) ⟨.slice A1 s.items.length y1_, .slice A2 s.rows.length y2_, .slice A3 s.sets.length y3_, .slice A4 s.cond.args.length y4_⟩ s ∧ Same (fun k => k < B) W0 W)
 case first =>
  by_cases ho : s.order = []
  ·rw [show (!s.order.isEmpty) = false from by rw [ho]; rfl];have HB : Hid (H2 = headS s ++ p1S s ++ p2S s) := LH (by unfold p2S; rw [HH2.out, if_pos ho]; simp);have HL9 : Hid (H2.length ≤ 2020000100) := LH (by omega);clear ho;go_wp2;go_meet;exact ⟨_, H2, rfl, rfl, HB, HL9.out, HROW.out, HST.out, HG.out⟩
  ·rw [show (!s.order.isEmpty) = true from by
    cases h : s.order with
    | nil => exact absurd h ho
    | cons a b => rfl]
   have hlo := HMS.out.order;obtain ⟨Y1, hY1⟩ : ∃ Y : List UInt8, Y = H2 ++ [32, 79, 82, 68, 69, 82, 32, 66, 89, 32] := ⟨_, rfl⟩;have lY1 : Y1.length = (H2 : List UInt8).length + ([32, 79, 82, 68, 69, 82, 32, 66, 89, 32] : List UInt8).length := by rw [hY1, List.length_append]
   obtain ⟨Y2, hY2⟩ : ∃ Y : List UInt8, Y = Y1 ++ s.order := ⟨_, rfl⟩;have lY2 : Y2.length = (Y1 : List UInt8).length + (s.order : List UInt8).length := by rw [hY2, List.length_append]
   simp only [List.length_cons, List.length_nil] at lY1 lY2;have aY1 : ∀ w, (Op.stringOp .add (str H2) ⟨#[32, 79, 82, 68, 69, 82, 32, 66, 89, 32]⟩).run Tryz.prog w = .ok (.string (str Y1)) w := fun w => hY1 ▸ add_str H2 [32, 79, 82, 68, 69, 82, 32, 66, 89, 32] (by first | omega | (simp only [List.length_cons, List.length_nil]; omega)) w
   have aY2 : ∀ w, (Op.stringOp .add (str Y1) (str s.order)).run Tryz.prog w = .ok (.string (str Y2)) w := fun w => hY2 ▸ add_str Y1 s.order (by first | omega | (simp only [List.length_cons, List.length_nil]; omega)) w
   have HB : Hid (Y2 = headS s ++ p1S s ++ p2S s) := LH (by unfold p2S; rw [hY2, hY1, HH2.out, if_neg ho]; simp);have HL9 : Hid (Y2.length ≤ 2020000100) := LH (by omega);clear hlo hY1 hY2 lY1 lY2;go_wp2;go_meet;exact ⟨_, Y2, rfl, rfl, HB, HL9.out, HROW.out, HST.out, HG.out⟩
 case rest =>
 clear HROW HST HG c12;obtain ⟨W3, H3, rfl, rfl, HH3, hl3, hrow, hst, hg9⟩ := hcut;have HROW := LH hrow;have HST := LH hst;have HG := LH hg9;clear hrow hst hg9;have c13 := HROW.out.cell 13;simp only [LG] at c13;go_upto_if 136 with (fail);go_cut [4] from 135 to 138 (fun v wx => ∃ (W : World) (H : List UInt8), W = wx ∧ v = .string (str H) ∧ Hid (H = headS s ++ p1S s ++ p2S s ++ p3S s) ∧ H.length ≤ 2020000200 ∧ Row W g 44 [.int .i64 s.kind, .string (str s.table), .slice A1 s.items.length y1_, .slice A2 s.rows.length y2_, .slice A3 s.sets.length y3_, .bool s.filt, .int .i64 s.cond.kind, .string (str s.cond.s), .int .i64 s.cond.v.kind, .int .i64 s.cond.v.n, .string (str s.cond.v.s), .slice A4 s.cond.args.length y4_, .string (str s.order), .bool s.down, .int .i64 s.limit] ∧ StR W (fun k => k < B) ⟨.slice A1 s.items.length y1_, .slice A2 s.rows.length y2_, .slice A3 s.sets.length y3_, .slice A4 s.cond.args.length y4_⟩ s ∧ Same (fun k => k < B) W0 W)
 case first =>
  cases hdn : s.down
  ·have HB : Hid (H3 = headS s ++ p1S s ++ p2S s ++ p3S s) := LH (by unfold p3S; rw [HH3.out, hdn]; simp);have HL9 : Hid (H3.length ≤ 2020000200) := LH (by omega);clear hdn;go_wp2;go_meet;exact ⟨_, H3, rfl, rfl, HB, HL9.out, HROW.out, HST.out, HG.out⟩
  ·obtain ⟨Y2, hY2⟩ : ∃ Y : List UInt8, Y = H3 ++ [32, 68, 69, 83, 67] := ⟨_, rfl⟩;have lY2 : Y2.length = (H3 : List UInt8).length + ([32, 68, 69, 83, 67] : List UInt8).length := by rw [hY2, List.length_append]
   simp only [List.length_cons, List.length_nil] at lY2;have aY2 : ∀ w, (Op.stringOp .add (str H3) ⟨#[32, 68, 69, 83, 67]⟩).run Tryz.prog w = .ok (.string (str Y2)) w := fun w => hY2 ▸ add_str H3 [32, 68, 69, 83, 67] (by first | omega | (simp only [List.length_cons, List.length_nil]; omega)) w
   have HB : Hid (Y2 = headS s ++ p1S s ++ p2S s ++ p3S s) := LH (by unfold p3S; rw [hY2, HH3.out, hdn]; rfl);have HL9 : Hid (Y2.length ≤ 2020000200) := LH (by omega);clear hdn hY2 lY2;go_wp2;go_meet;exact ⟨_, Y2, rfl, rfl, HB, HL9.out, HROW.out, HST.out, HG.out⟩
 case rest =>
 clear HROW HST HG c13;obtain ⟨W4, H4, rfl, rfl, HH4, hl4, hrow, hst, hg9⟩ := hcut;have HROW := LH hrow;have HST := LH hst;have HG := LH hg9;clear hrow hst hg9;have c0 := HROW.out.cell 0;have c14 := HROW.out.cell 14;simp only [LG] at c0 c14;have hfin := HS.out.trans (HG.out.mono (S' := fun _ => True) fun k hk _ => by rw [HBB.out]; exact hk);have HFIN := LH hfin;clear hfin;by_cases hk : s.kind = 1
 case neg =>
  have ek := int_eq_f hk;have HB : Hid (H4 = showS s) := LH (by rw [showS_eq]; unfold p4S; rw [HH4.out, if_neg (fun h => hk h.1)]; simp);clear hk;go_wp2;go_ret;exact ⟨ret_str HB.out, HFIN.out⟩
 case pos =>
 have ek := int_eq_t hk;by_cases hl : 0 ≤ s.limit
 ·have el : decide (0 ≤ s.limit) = true := decide_eq_true hl;have hi64 := i64_I HSI.out.limit;have hlen := intL_len hi64;obtain ⟨D, hD⟩ : ∃ D, D = intL s.limit := ⟨_, rfl⟩;have hf := refdigits_int s.limit W4 hi64;rw [← hD] at hf hlen;obtain ⟨Y1, hY1⟩ : ∃ Y : List UInt8, Y = H4 ++ [32, 76, 73, 77, 73, 84, 32] := ⟨_, rfl⟩;have lY1 : Y1.length = (H4 : List UInt8).length + ([32, 76, 73, 77, 73, 84, 32] : List UInt8).length := by rw [hY1, List.length_append]
  obtain ⟨Y2, hY2⟩ : ∃ Y : List UInt8, Y = Y1 ++ D := ⟨_, rfl⟩;have lY2 : Y2.length = (Y1 : List UInt8).length + (D : List UInt8).length := by rw [hY2, List.length_append]
  simp only [List.length_cons, List.length_nil] at lY1 lY2;have aY1 : ∀ w, (Op.stringOp .add (str H4) ⟨#[32, 76, 73, 77, 73, 84, 32]⟩).run Tryz.prog w = .ok (.string (str Y1)) w := fun w => hY1 ▸ add_str H4 [32, 76, 73, 77, 73, 84, 32] (by first | omega | (simp only [List.length_cons, List.length_nil]; omega)) w
  have aY2 : ∀ w, (Op.stringOp .add (str Y1) (str D)).run Tryz.prog w = .ok (.string (str Y2)) w := fun w => hY2 ▸ add_str Y1 D (by first | omega | (simp only [List.length_cons, List.length_nil]; omega)) w
  have HB : Hid (Y2 = showS s) := LH (by rw [showS_eq]; unfold p4S; rw [hY2, hY1, HH4.out, hD, if_pos ⟨hk, hl⟩]; simp);clear hk hl hi64 hlen hD hY1 hY2 lY1 lY2;go_wp2_with (go_at_call 29; refine stopAt ?_);unfold Hid;refine (show Calls _ _ _ _ _ from hf).mono ?_;rintro e w2 ⟨rfl, rfl⟩;clear hf;go_wp2;go_ret;exact ⟨ret_str HB.out, HFIN.out⟩
 ·have el : decide (0 ≤ s.limit) = false := decide_eq_false hl;have HB : Hid (H4 = showS s) := LH (by rw [showS_eq]; unfold p4S; rw [HH4.out, if_neg (fun h => hl h.2)]; simp);clear hk hl;go_wp2;go_ret;exact ⟨ret_str HB.out, HFIN.out⟩
def IntP (w : World) (e : Ending) (w' : World) : Prop := (∃ m : Int, e = .returned (.int .i64 m)) ∧ Same (fun _ => True) w w'
set_option maxRecDepth 100000 in
set_option maxHeartbeats 4000000 in
theorem count_any : ∀ (e : Ex) (n : Int) (u : Value) (w : World), ExR w (fun _ => True) u e → Calls Tryz.prog 11 #[exV u e, .int .i64 n] w (IntP w) := by
 apply Ex.ind;intro k s v l ih n u w hr;obtain ⟨A, c, rfl, hc1, hc2⟩ := hr.toL.form;have hl : ExL w (fun _ => True) (.slice A l.length c) l := hr.toL;have hc1 : l.length ≤ c := hc1;show Calls Tryz.prog 11 #[.agg #[.int .i64 k, .string (str s), .int .i64 v.kind, .int .i64 v.n, .string (str v.s), .slice A l.length c], .int .i64 n] w (IntP w);unfold maxLen at hc2;have hA := (Same.refl (fun _ => True) w).alloc (.cells #[.int .i64 k, .string (str s), .int .i64 v.kind, .int .i64 v.n, .string (str v.s), .slice A l.length c] 34);have hrow := Row.new w 34 [.int .i64 k, .string (str s), .int .i64 v.kind, .int .i64 v.n, .string (str v.s), .slice A l.length c];have hl1 := hl.keepAll hA;have hlc : (l.length : Int) ≤ (c : Int) := by omega
 clear hr hl;go_enter Tryz.func11, Tryz.ntmps11;go_upto_region 1 with (fail);revert hA hrow hl1;generalize w.alloc _ = w1;intro hA hrow hl1;have HL := LH hl1;have HS := LH hA;have c5 := hrow.cell 5;simp only [LG] at c5;clear hA hl1 hrow;go_wp2;go_loopw [5, 6] (fun x i wr => ∃ (q : Nat) (m : Int), x = .int .i64 m ∧ i = .int .i64 (q : Int) ∧ q ≤ l.length ∧ Same (fun _ => True) w1 wr) (fun _ i _ => l.length - (intOf i).toNat)
 case atStart => exact ⟨0, 1, rfl, rfl, Nat.zero_le _, Same.refl _ _⟩
 case round =>
  obtain ⟨q, m, rfl, rfl, hq, hS⟩ := hrel;have x1 : (0 : Int) ≤ (q : Int) := by omega
  have HS2 := LH hS;have HL2 := LH (HL.out.keepAll hS);have k5 := hS.cell (p := ⟨w.heap.size, 5, none⟩) tv c5;clear hS;by_cases hql : q < l.length
  ·have x2 : (q : Int) < (l.length : Int) := by omega
   obtain ⟨ad, uq, rfl, -, hlq, d0, d1, d2, d3, d4, d5⟩ := ExL.cells HL2.out hql;obtain ⟨Aq, cq, rfl, -, -⟩ := hlq.form;have hmem : l[q] ∈ l := List.getElem_mem hql;by_cases hmn : m ≤ n
   ·have hlq1 := (ExR.iff _ l[q]).2 hlq;clear hlq;go_wp2_with (go_at_call 11; refine stopAt ?_);unfold Hid;refine (ih l[q] hmem _ (.slice Aq l[q].args.length cq) _ hlq1).mono ?_;rintro e w5 ⟨⟨m2, rfl⟩, hS⟩;have HS5 := LH (HS2.out.trans hS);clear hS hlq1 hmem;go_wp2;go_roundw
    case rel => exact ⟨q + 1, _, rfl, by go_num, by omega, HS5.out⟩
    case measure => simp [intOf]; omega
   ·go_wp2;go_ret;exact ⟨⟨m, rfl⟩, HS.out.trans HS2.out⟩
  ·obtain rfl : q = l.length := by omega
   go_wp2;go_ret;exact ⟨⟨m, rfl⟩, HS.out.trans HS2.out⟩
theorem sameEs_len {l l' : List Ex} (h : ¬ l.length = l'.length) : sameEs l l' = false := by
 cases hb : sameEs l l' with
 | false => rfl
 | true => exact absurd (congrArg List.length ((sameEs_iff l l').1 hb)) h
theorem sameEs_drop {l l' : List Ex} {q : Nat} (h : q < l.length) (h' : q < l'.length) : sameEs (l.drop q) (l'.drop q) = (sameE l[q] l'[q] && sameEs (l.drop (q + 1)) (l'.drop (q + 1))) := by
 rw [List.drop_eq_getElem_cons h, List.drop_eq_getElem_cons h', sameEs]
theorem str_ne_t {s x : List UInt8} (h : ¬ s = x) : (s != x) = true := by simpa using h
theorem str_ne_f {s x : List UInt8} (h : s = x) : (s != x) = false := by subst h; simp
set_option maxRecDepth 100000 in
set_option maxHeartbeats 8000000 in
theorem refsamex_any : ∀ (e e' : Ex) (u u' : Value) (w : World), ExR w (fun _ => True) u e → ExR w (fun _ => True) u' e' → Calls Tryz.prog 14 #[exV u e, exV u' e'] w (BoolP (sameE e e') w) := by
 apply Ex.ind;intro k s v l ih e' u u' w hr hr';obtain ⟨k', s', v', l'⟩ := e';obtain ⟨A, c, rfl, hc1, hc2⟩ := hr.toL.form;obtain ⟨A', c', rfl, hc1', hc2'⟩ := hr'.toL.form;have hl : ExL w (fun _ => True) (.slice A l.length c) l := hr.toL;have hl' : ExL w (fun _ => True) (.slice A' l'.length c') l' := hr'.toL;have hc1 : l.length ≤ c := hc1;unfold maxLen at hc2;show Calls Tryz.prog 14 #[.agg #[.int .i64 k, .string (str s), .int .i64 v.kind, .int .i64 v.n, .string (str v.s), .slice A l.length c], .agg #[.int .i64 k', .string (str s'), .int .i64 v'.kind, .int .i64 v'.n, .string (str v'.s), .slice A' l'.length c']] w (BoolP (sameE (.mk k s v l) (.mk k' s' v' l')) w);obtain ⟨X, hX⟩ : ∃ X, X = sameE (.mk k s v l) (.mk k' s' v' l') := ⟨_, rfl⟩;rw [← hX];rw [sameE] at hX;have hA := (Same.refl (fun _ => True) w).alloc (.cells #[.int .i64 k, .string (str s), .int .i64 v.kind, .int .i64 v.n, .string (str v.s), .slice A l.length c] 34);have hA' := (Same.refl (fun _ => True) (w.alloc (.cells #[.int .i64 k, .string (str s), .int .i64 v.kind, .int .i64 v.n, .string (str v.s), .slice A l.length c] 34))).alloc (.cells #[.int .i64 k', .string (str s'), .int .i64 v'.kind, .int .i64 v'.n, .string (str v'.s), .slice A' l'.length c'] 34);have hrow := (Row.new w 34 [.int .i64 k, .string (str s), .int .i64 v.kind, .int .i64 v.n, .string (str v.s), .slice A l.length c]).keep hA' tv;have hrow' := Row.new (w.alloc (.cells #[.int .i64 k, .string (str s), .int .i64 v.kind, .int .i64 v.n, .string (str v.s), .slice A l.length c] 34)) 34 [.int .i64 k', .string (str s'), .int .i64 v'.kind, .int .i64 v'.n, .string (str v'.s), .slice A' l'.length c'];have hz : (w.alloc (.cells #[.int .i64 k, .string (str s), .int .i64 v.kind, .int .i64 v.n, .string (str v.s), .slice A l.length c] 34)).heap.size = w.heap.size + 1 := by simp
 rw [hz] at hrow';have hs := hA.trans hA';have hl1 := hl.keepAll hs;have hl1' := hl'.keepAll hs;have HX := LH hX;clear hX hr hr' hl hl' hz hA hA';go_enter Tryz.func14, Tryz.ntmps14;go_upto_region 1 with (fail);revert hrow hrow' hs hl1 hl1';generalize (w.alloc _).alloc _ = w1;intro hrow hrow' hs hl1 hl1';have HL := LH hl1;have HL' := LH hl1';have HS := LH hs;generalize w.heap.size = g at *;have c0 := hrow.cell 0;have c1 := hrow.cell 1;have c2 := hrow.cell 2;have c3 := hrow.cell 3;have c4 := hrow.cell 4;have c5 := hrow.cell 5;simp only [LG] at c0 c1 c2 c3 c4 c5;have g0 := hrow'.cell 0;have g1 := hrow'.cell 1;have g2 := hrow'.cell 2;have g3 := hrow'.cell 3;have g4 := hrow'.cell 4;have g5 := hrow'.cell 5;simp only [LG] at g0 g1 g2 g3 g4 g5;clear hs hl1 hl1' hrow hrow';by_cases h0 : k = k'
 ·have e0 := ne_f h0;by_cases h1 : s = s'
  ·have e1 := str_ne_f h1;by_cases h2 : v = v'
   ·have hez : ∀ w, (binOp .neq 31 (.agg #[.int .i64 v.kind, .int .i64 v.n, .string (str v.s)]) (.agg #[.int .i64 v'.kind, .int .i64 v'.n, .string (str v'.s)])).run Tryz.prog w = .ok (.bool false) w := fun w => by
     have := neV v v' w;rw [decide_eq_true h2] at this;exact this
    by_cases h3 : l.length = l'.length
    ·have HLE := LH h3;have e3 : ((l.length : Int) != (l'.length : Int)) = false := ne_f (by omega);have HB : Hid (X = sameEs l l') := LH (by rw [HX.out, decide_eq_true h0, decide_eq_true h1, decide_eq_true h2]; simp);clear h0 h2 h3;have h1 : s' = s := h1.symm;subst h1;go_wp2;go_loopw [5] (fun i wr => ∃ q : Nat, i = .int .i64 (q : Int) ∧ q ≤ l.length ∧ X = sameEs (l.drop q) (l'.drop q) ∧ Same (fun _ => True) w1 wr) (fun i _ => l.length - (intOf i).toNat)
     case atStart => exact ⟨0, rfl, Nat.zero_le _, HB.out, Same.refl _ _⟩
     case round =>
      obtain ⟨q, rfl, hq, hx, hS⟩ := hrel;have x1 : (0 : Int) ≤ (q : Int) := by omega
      have HS2 := LH hS;have HL2 := LH (HL.out.keepAll hS);have HL2' := LH (HL'.out.keepAll hS);have k5 := hS.cell (p := ⟨g, 5, none⟩) tv c5;have j5 := hS.cell (p := ⟨g + 1, 5, none⟩) tv g5;clear hS;by_cases hql : q < l.length
      ·have hql' : q < l'.length := by rw [← HLE.out]; exact hql
       have x2 : (q : Int) < (l.length : Int) := by omega
       have x3 : (q : Int) < (l'.length : Int) := by omega
       obtain ⟨ad, uq, rfl, -, hlq, d0, d1, d2, d3, d4, d5⟩ := ExL.cells HL2.out hql;obtain ⟨Aq, cq, rfl, -, -⟩ := hlq.form;obtain ⟨ad', uq', rfl, -, hlq', b0, b1, b2, b3, b4, b5⟩ := ExL.cells HL2'.out hql';obtain ⟨Aq', cq', rfl, -, -⟩ := hlq'.form;have HE := LH ((ExR.iff _ l[q]).2 hlq);have HE' := LH ((ExR.iff _ l'[q]).2 hlq');rw [sameEs_drop hql hql'] at hx;have HXq := LH hx;have hmem : l[q] ∈ l := List.getElem_mem hql;have HI := LH (ih l[q] hmem l'[q]);clear hlq hlq' hx hmem ih;go_wp2;go_still_tail 10, (by kernel_rfl);change wpList _ _ _ _ _ wr.drew;have hdw : Same (fun _ => True) wr wr.drew := SR.drew;have HE := LH (HE.out.keepAll hdw);have HE' := LH (HE'.out.keepAll hdw);have HS2 := LH (HS2.out.trans hdw);clear hdw d0 d1 d2 d3 d4 d5 b0 b1 b2 b3 b4 b5 k5 j5;generalize wr.drew = w5 at *;go_wp2_with (go_at_call 14; refine stopAt ?_);unfold Hid;refine (show Calls _ _ _ _ _ from HI.out (.slice Aq l[q].args.length cq) (.slice Aq' l'[q].args.length cq') _ HE.out HE'.out).mono ?_;rintro e w6 ⟨rfl, hS⟩;have HS6 := LH (HS2.out.trans hS);clear hS;cases hb : sameE l[q] l'[q]
       ·have HB : Hid (false = X) := LH (by rw [HXq.out, hb]; rfl);clear hb;go_wp2;go_ret;exact ⟨ret_bool HB.out, HS.out.trans HS6.out⟩
       ·have HB : Hid (X = sameEs (l.drop (q + 1)) (l'.drop (q + 1))) := LH (by rw [HXq.out, hb]; rfl);clear hb;go_wp2;go_roundw
        case rel => exact ⟨q + 1, by go_num, by omega, HB.out, HS6.out⟩
        case measure => simp [intOf]; omega
      ·obtain rfl : q = l.length := by omega
       have HB2 : Hid (true = X) := LH (by rw [hx, List.drop_eq_nil_of_le (Nat.le_refl _), List.drop_eq_nil_of_le (by rw [HLE.out]; exact Nat.le_refl _)]; rfl);clear hx;go_wp2;go_ret;exact ⟨ret_bool HB2.out, HS.out.trans HS2.out⟩
    ·have e3 : ((l.length : Int) != (l'.length : Int)) = true := ne_t (by omega);have HB : Hid (false = X) := LH (by rw [HX.out, sameEs_len h3]; simp);clear h0 h2 h3;have h1 : s' = s := h1.symm;subst h1;go_wp2;go_ret;exact ⟨ret_bool HB.out, HS.out⟩
   ·have hez : ∀ w, (binOp .neq 31 (.agg #[.int .i64 v.kind, .int .i64 v.n, .string (str v.s)]) (.agg #[.int .i64 v'.kind, .int .i64 v'.n, .string (str v'.s)])).run Tryz.prog w = .ok (.bool true) w := fun w => by
     have := neV v v' w;rw [decide_eq_false h2] at this;exact this
    have HB : Hid (false = X) := LH (by rw [HX.out, decide_eq_false h2]; simp);clear h0 h2;have h1 : s' = s := h1.symm;subst h1;go_wp2;go_ret;exact ⟨ret_bool HB.out, HS.out⟩
  ·have e1 := str_ne_t h1;have HB : Hid (false = X) := LH (by rw [HX.out, decide_eq_false h1]; simp);clear h0;go_wp2;go_ret;exact ⟨ret_bool HB.out, HS.out⟩
 ·have e0 := ne_t h0;have HB : Hid (false = X) := LH (by rw [HX.out, decide_eq_false h0]; simp);clear h0;go_wp2;go_ret;exact ⟨ret_bool HB.out, HS.out⟩
end Go.Proofs.YtdfojghhpdkpfaaGreatDoor
namespace Go.Proofs.YtdfojghhpdkpfaaGreatDoor
open Go.RowKit Go.ChangeShapes Go.WideShapes Go.ChangeAt
theorem ret_u8 {a b : Int} (h : a = b) : Ending.returned (.int .u8 a) = .returned (.int .u8 b) := by rw [h]
set_option maxHeartbeats 400000 in
theorem refgreat_any (c : UInt8) (w : World) : Calls Tryz.prog 108 #[.int .u8 (n8 c)] w fun e w' => e = .returned (.int .u8 (n8 (upB c))) ∧ w = w' := by
  have hb := n8_bd c;have hup := upB_eq c;by_cases h1 : 97 ≤ n8 c <;> by_cases h2 : n8 c ≤ 122
  · rw [if_pos ⟨h1, h2⟩] at hup;have HU := LH hup;clear hup;go_enter Tryz.func108, Tryz.ntmps108;go_wp2;go_ret;exact ⟨(by rw [HU.out]; exact ret_u8 (by omega)), rfl⟩
  all_goals
    rw [if_neg (by omega)] at hup;have HU := LH hup;clear hup
    first
    | (exfalso; omega)
    | (go_enter Tryz.func108, Tryz.ntmps108
       go_wp2;go_ret
       exact ⟨(by rw [HU.out]; rfl), rfl⟩)
theorem isLet_up (c : UInt8) : isLet c = ((decide (65 ≤ n8 (upB c)) && decide (n8 (upB c) ≤ 90)) || decide (n8 c = 95)) := by
  have := u8_all (p := fun c => isLet c == ((decide (65 ≤ n8 (upB c)) && decide (n8 (upB c) ≤ 90)) || decide (n8 c = 95))) (by decide +kernel) c;simpa using this
set_option maxHeartbeats 400000 in
theorem refletter_any (c : UInt8) (w : World) : Calls Tryz.prog 107 #[.int .u8 (n8 c)] w fun e w' => e = .returned (.bool (isLet c)) ∧ w = w' := by
  have H := LH (isLet_up c);by_cases h1 : 65 ≤ n8 (upB c) <;> by_cases h2 : n8 (upB c) ≤ 90 <;> by_cases h4 : n8 c = 95
  all_goals
    have K := H.out;simp only [h1, h2, h4, decide_true, decide_false, Bool.and_true, Bool.and_false, Bool.or_true, Bool.or_false, Bool.and_self, Bool.or_self, Bool.false_and] at K;rw [K];clear K H
    first | have k4 : (n8 c == 95) = true := by simpa using h4
          | have k4 : (n8 c == 95) = false := by simpa using h4
    try have k5 : n8 (upB c) < 65 := by omega
    try have k6 : decide (n8 (upB c) ≤ 90) = false := decide_eq_false (by omega)
    first
      | (exfalso; omega)
      | (clear h4
         go_enter Tryz.func107, Tryz.ntmps107;go_wp2_with (go_at_call 108; refine (refgreat_any c _).mono ?_; rintro e w' ⟨rfl, rfl⟩);go_ret
         exact ⟨rfl, rfl⟩)
set_option maxHeartbeats 400000 in
theorem refdigit_any (c : UInt8) (w : World) : Calls Tryz.prog 106 #[.int .u8 (n8 c)] w fun e w' => e = .returned (.bool (isDig c)) ∧ w = w' := by
  have H := LH (isDig_eq c);by_cases h1 : 48 ≤ n8 c <;> by_cases h2 : n8 c ≤ 57
  all_goals
    have K := H.out;simp only [h1, h2, decide_true, decide_false, Bool.and_true, Bool.and_false, Bool.and_self] at K;rw [K];clear K H;go_enter Tryz.func106, Tryz.ntmps106;go_wp2;go_ret;exact ⟨rfl, rfl⟩
theorem refdig {c : UInt8} {b : Bool} (h : isDig c = b) (w : World) : Calls Tryz.prog 106 #[.int .u8 (n8 c)] w fun e w' => e = .returned (.bool b) ∧ w = w' := by
  subst h; exact refdigit_any c w
theorem reflet {c : UInt8} {b : Bool} (h : isLet c = b) (w : World) : Calls Tryz.prog 107 #[.int .u8 (n8 c)] w fun e w' => e = .returned (.bool b) ∧ w = w' := by
  subst h; exact refletter_any c w
theorem refgreat {c : UInt8} (w : World) : Calls Tryz.prog 108 #[.int .u8 (n8 c)] w fun e w' => e = .returned (.int .u8 (n8 (upB c))) ∧ w = w' := refgreat_any c w
def resCs : List Value := resW.map fun x => .string (str x)
def ResP (w : World) (e : Ending) (w' : World) : Prop := ∃ g, e = .returned (.slice (some ⟨g, 0, none⟩) 32 32) ∧ Row w' g 9 resCs ∧ w.heap.size ≤ g ∧ Same (fun _ => True) w w'
set_option maxHeartbeats 1000000 in
set_option maxRecDepth 100000 in
theorem refreserved_any (w : World) : Calls Tryz.prog 109 #[] w (ResP w) := by
  go_enter Tryz.func109, Tryz.ntmps109;go_wp2;go_ret;exact ⟨w.heap.size, rfl, Row.new w 9 resCs, Nat.le_refl _, SR.alloc _⟩
def goodB (c : UInt8) : Bool := isWordy c && (upB c == c)
theorem all_good (l : List UInt8) : l.all goodB = (l.all isWordy && decide (l.map upB = l)) := by
  induction l with
  | nil => rfl
  | cons c l ih =>
    simp only [List.all_cons, List.map_cons, ih, goodB];rw [Bool.eq_iff_iff];simp;constructor
    · rintro ⟨⟨a, b⟩, c, d⟩; exact ⟨⟨a, c⟩, b, d⟩
    · rintro ⟨⟨a, c⟩, b, d⟩; exact ⟨⟨a, b⟩, c, d⟩
theorem all_drop (s : ByteArray) (p : UInt8 → Bool) (k : Nat) (h : k < s.size) : ((bl s).drop k).all p = (p s[k] && ((bl s).drop (k + 1)).all p) := by
  rw [bl_get s k h]; rfl
theorem quietly {P : Program} {f : FuncId} {args : Array Value} {v : Value} (h : ∀ w, Calls P f args w fun e w' => e = .returned v ∧ w = w') (w : World) (n : Nat) : Calls P f args (w.drewN n) fun e w' => e = .returned v ∧ w' = w.drewN n :=
  (h (w.drewN n)).mono fun _ _ ⟨a, b⟩ => ⟨a, b.symm⟩
theorem resCs_get (i : Nat) (h : i < 32) : resCs[i]? = some (.string (str (resW[i]'h))) := by
  unfold resCs;rw [List.getElem?_map, List.getElem?_eq_getElem h];rfl
theorem resW_step (i : Nat) (h : i < 32) (l : List UInt8) : (resW.drop i).contains l = (l == resW[i]'h || (resW.drop (i + 1)).contains l) := by
  rw [List.drop_eq_getElem_cons (show i < resW.length from h), List.contains_cons];rfl
set_option maxHeartbeats 1000000 in
theorem refword_any (s : ByteArray) (w : World) (hs : s.size ≤ 100000) :
    Calls Tryz.prog 63 #[.string s] w fun e w' => e = .returned (.bool (wordF (bl s))) ∧ Same (fun _ => True) w w' := by
  have hbl := bl_len s;have Hbl := LH hbl;by_cases h0 : s.size = 0
  · have hnil : bl s = [] := List.eq_nil_of_length_eq_zero (by omega);have K : wordF (bl s) = false := by rw [hnil]; rfl
    have HK := LH K;have e1 : ((s.size : Int) == 0) = true := by simpa using h0
    clear K hbl hnil h0;go_enter Tryz.func63, Tryz.ntmps63;go_wp2;go_ret;exact ⟨by rw [HK.out]; rfl, Same.refl _ _⟩
  · have hpos : 0 < s.size := by omega
    have e1 : ((s.size : Int) == 0) = false := by simpa using h0
    have hc0 := bl_get s 0 hpos;rw [List.drop_zero] at hc0;by_cases h16 : 16 < s.size
    · have K : wordF (bl s) = false := by unfold wordF; rw [decide_eq_false (by omega)]; rfl
      have HK := LH K;have d16 : decide ((16 : Int) < s.size) = true := decide_eq_true (by omega);clear K hbl hc0 h0;go_enter Tryz.func63, Tryz.ntmps63;go_wp2;go_ret;exact ⟨by rw [HK.out]; rfl, Same.refl _ _⟩
    · have h16' : (bl s).length ≤ 16 := by omega
      have d16 : decide ((16 : Int) < s.size) = false := decide_eq_false (by omega);cases hd : isDig s[0]
      · have g := refdig hd
        have K1 : wordF (bl s) = ((bl s).all goodB && !resW.contains (bl s)) := by
          rw [all_good];unfold wordF wordOk;rw [decide_eq_true h16']
          conv => lhs; rw [hc0]
          simp only [hd, Bool.not_false, Bool.true_and];rw [← hc0]
        have HK1 := LH K1;clear K1 hbl hc0 h0 hd;go_enter Tryz.func63, Tryz.ntmps63;go_wp2_with (go_at_call 106; refine (g _).mono ?_; rintro e w' ⟨rfl, rfl⟩);go_loopw [3] (fun i wr => ∃ k : Nat, k ≤ s.size ∧ i = .int .i64 k ∧ ((bl s).drop k).all goodB = (bl s).all goodB ∧ Same (fun _ => True) w wr) (fun i _ => s.size - (intOf i).toNat)
        case atStart => exact ⟨0, Nat.zero_le _, rfl, rfl, Same.refl _ _⟩
        case round =>
          clear g;obtain ⟨k, hk, rfl, hall, hS⟩ := hrel;have HS := LH hS;clear hS;by_cases hlt : k < s.size
          · have x1 : (0 : Int) ≤ k := by omega
            have x2 : (k : Int) < s.size := by omega
            rw [all_drop s goodB k hlt] at hall;cases hl : isLet s[k] <;> cases hdg : isDig s[k] <;> cases hu : decide (upB s[k] = s[k])
            all_goals
              have hg : goodB s[k] = ((isLet s[k] || isDig s[k]) && decide (upB s[k] = s[k])) := by
                unfold goodB isWordy;congr 1
              rw [hl, hdg, hu] at hg;have q1 := quietly (reflet hl);have q2 := quietly (refdig hdg);have q3 := quietly (refgreat (c := s[k]));rw [hg] at hall;have Hall := LH hall;clear hg hl hdg hall
              first
              | (have u1 : ((n8 (upB s[k]) : Int) != (s[k].toNat : Int)) = false := by
                   have := of_decide_eq_true hu
                   rw [this]; simp [n8])
              | (have u1 : ((n8 (upB s[k]) : Int) != (s[k].toNat : Int)) = true := by
                   have := of_decide_eq_false hu;simp
                   exact fun e => this (n8_inj.1 e))
              clear hu;go_wp2;go_quiet ((first | (go_at_call 107; exact Calls.quiet_of_same (q1 _ _)) | (go_at_call 106; exact Calls.quiet_of_same (q2 _ _)) | (go_at_call 108; exact Calls.quiet_of_same (q3 _ _))));go_wp2
              first
              | (go_ret
                 exact ⟨by rw [HK1.out, ← Hall.out]; rfl, HS.out.drewN _⟩)
              | (refine ⟨⟨k + 1, by omega, by go_num, Hall.out, HS.out.drewN _⟩, by simp [intOf]; omega⟩)
          · obtain rfl : k = s.size := by omega
            rw [List.drop_eq_nil_of_le (by rw [Hbl.out]; exact Nat.le_refl _)] at hall;obtain ⟨B, hB⟩ : ∃ B, resW.contains (bl s) = B := ⟨_, rfl⟩;have K : wordF (bl s) = !B := by rw [HK1.out, ← hall, hB]; rfl
            have HK := LH K;have HB := LH hB;clear K hB hall;go_wp2_with (go_at_call 109; refine (refreserved_any _).mono ?_; rintro e w1 ⟨g, rfl, hrow, hg, hS1⟩);have Hrow := LH hrow;have HS1 := LH (HS.out.trans hS1);clear hrow hS1;go_loop [5] (fun i => ∃ j : Nat, j ≤ 32 ∧ i = .int .i64 j ∧ (resW.drop j).contains (bl s) = B) (fun i => 32 - (intOf i).toNat)
            case atStart => exact ⟨0, by omega, rfl, HB.out⟩
            case round =>
              obtain ⟨j, hj, rfl, hc⟩ := hrel;by_cases hlt2 : j < 32
              · have x1 : (0 : Int) ≤ j := by omega
                have x2 : (j : Int) < 32 := by omega
                have hcell := Hrow.out.cell j;rw [resCs_get j hlt2] at hcell;rw [resW_step j hlt2] at hc;by_cases heq : bl s = resW[j]'hlt2
                · have u1 : (str (resW[j]'hlt2)).toList = s.toList := by rw [ByteArray.toList_eq, ByteArray.toList_eq]; exact heq.symm
                  have hb : B = true := by rw [← hc, heq]; simp
                  have Hb := LH hb;clear hc heq hb;go_wp2;go_ret;exact ⟨by rw [HK.out, Hb.out]; rfl, HS1.out⟩
                · have u1 : ¬ (str (resW[j]'hlt2)).toList = s.toList := by rw [ByteArray.toList_eq, ByteArray.toList_eq]; exact fun e => heq e.symm
                  have u2 : ((str (resW[j]'hlt2)).toList == s.toList) = false := by simpa using u1
                  have u3 : ((resW[j]'hlt2) == s.toList) = false := by rw [← str_toL (resW[j]'hlt2)]; exact u2
                  have hc' : (resW.drop (j + 1)).contains (bl s) = B := by
                    have : (bl s == resW[j]'hlt2) = false := by simpa using heq
                    rw [this, Bool.false_or] at hc;exact hc
                  have HC := LH hc';clear hc heq hc';go_wp2;go_round
                  case rel => exact ⟨j + 1, by omega, by go_num, HC.out⟩
                  case measure => simp [intOf]; omega
              · obtain rfl : j = 32 := by omega
                have hb : B = false := by rw [← hc]; rfl
                have Hb := LH hb;clear hc hb;go_wp2;go_ret;exact ⟨by rw [HK.out, Hb.out]; rfl, HS1.out⟩
      · have g := refdig hd
        have K : wordF (bl s) = false := by
          unfold wordF wordOk
          conv => lhs; rw [hc0]
          simp [hd]
        have HK := LH K;clear K hbl hc0 h0 hd;go_enter Tryz.func63, Tryz.ntmps63;go_wp2_with (first | (go_at_call 106; refine (g _).mono ?_; rintro e w' ⟨rfl, rfl⟩));go_ret;exact ⟨by rw [HK.out]; rfl, Same.refl _ _⟩
end Go.Proofs.YtdfojghhpdkpfaaGreatDoor
namespace Go.Proofs.YtdfojghhpdkpfaaGreatDoor
open Go.RowKit
set_option maxHeartbeats 1000000 in
theorem refword_all (s : List UInt8) (w : World) : Calls Tryz.prog 63 #[.string (str s)] w (BoolP (wordF s) w) := by
  have hbl := bl_str s;by_cases h16 : (str s).size ≤ 100000
  · have := refword_any (str s) w h16;rw [hbl] at this;exact this
  · have hz : (str s).size = s.length := str_size s;have K : wordF s = false := by unfold wordF; rw [decide_eq_false (show ¬ s.length ≤ 16 by omega)]; rfl
    have HK := LH K;generalize str s = S at *;have e1 : ((S.size : Int) == 0) = false := int_eq_f (by omega);have d16 : decide ((16 : Int) < S.size) = true := decide_eq_true (by omega);clear K hbl h16 hz;go_enter Tryz.func63, Tryz.ntmps63;go_wp2;go_ret;exact ⟨ret_bool HK.out.symm, Same.refl _ _⟩
def argsD (s : List UInt8) : Int := if argsN s = -1 then 0 else argsN s
set_option maxHeartbeats 1000000 in
theorem refargs_0 (w : World) : Calls Tryz.prog 127 #[.string (str [78, 79, 84])] w fun e w' => e = .returned (.int .i64 1) ∧ w' = w := by
  go_enter Tryz.func127, Tryz.ntmps127;go_wp2;go_ret;exact ⟨rfl, rfl⟩
set_option maxHeartbeats 1000000 in
theorem refargs_1 (w : World) : Calls Tryz.prog 127 #[.string (str [73, 83, 78, 85, 76, 76])] w fun e w' => e = .returned (.int .i64 1) ∧ w' = w := by
  go_enter Tryz.func127, Tryz.ntmps127;go_wp2;go_ret;exact ⟨rfl, rfl⟩
set_option maxHeartbeats 1000000 in
theorem refargs_2 (w : World) : Calls Tryz.prog 127 #[.string (str [78, 79, 84, 78, 85, 76, 76])] w fun e w' => e = .returned (.int .i64 1) ∧ w' = w := by
  go_enter Tryz.func127, Tryz.ntmps127;go_wp2;go_ret;exact ⟨rfl, rfl⟩
set_option maxHeartbeats 1000000 in
theorem refargs_3 (w : World) : Calls Tryz.prog 127 #[.string (str [78, 69, 71])] w fun e w' => e = .returned (.int .i64 1) ∧ w' = w := by
  go_enter Tryz.func127, Tryz.ntmps127;go_wp2;go_ret;exact ⟨rfl, rfl⟩
set_option maxHeartbeats 1000000 in
theorem refargs_4 (w : World) : Calls Tryz.prog 127 #[.string (str [79, 82])] w fun e w' => e = .returned (.int .i64 2) ∧ w' = w := by
  go_enter Tryz.func127, Tryz.ntmps127;go_wp2;go_ret;exact ⟨rfl, rfl⟩
set_option maxHeartbeats 1000000 in
theorem refargs_5 (w : World) : Calls Tryz.prog 127 #[.string (str [65, 78, 68])] w fun e w' => e = .returned (.int .i64 2) ∧ w' = w := by
  go_enter Tryz.func127, Tryz.ntmps127;go_wp2;go_ret;exact ⟨rfl, rfl⟩
set_option maxHeartbeats 1000000 in
theorem refargs_6 (w : World) : Calls Tryz.prog 127 #[.string (str [61])] w fun e w' => e = .returned (.int .i64 2) ∧ w' = w := by
  go_enter Tryz.func127, Tryz.ntmps127;go_wp2;go_ret;exact ⟨rfl, rfl⟩
set_option maxHeartbeats 1000000 in
theorem refargs_7 (w : World) : Calls Tryz.prog 127 #[.string (str [60, 62])] w fun e w' => e = .returned (.int .i64 2) ∧ w' = w := by
  go_enter Tryz.func127, Tryz.ntmps127;go_wp2;go_ret;exact ⟨rfl, rfl⟩
set_option maxHeartbeats 1000000 in
theorem refargs_8 (w : World) : Calls Tryz.prog 127 #[.string (str [60])] w fun e w' => e = .returned (.int .i64 2) ∧ w' = w := by
  go_enter Tryz.func127, Tryz.ntmps127;go_wp2;go_ret;exact ⟨rfl, rfl⟩
set_option maxHeartbeats 1000000 in
theorem refargs_9 (w : World) : Calls Tryz.prog 127 #[.string (str [60, 61])] w fun e w' => e = .returned (.int .i64 2) ∧ w' = w := by
  go_enter Tryz.func127, Tryz.ntmps127;go_wp2;go_ret;exact ⟨rfl, rfl⟩
set_option maxHeartbeats 1000000 in
theorem refargs_10 (w : World) : Calls Tryz.prog 127 #[.string (str [62])] w fun e w' => e = .returned (.int .i64 2) ∧ w' = w := by
  go_enter Tryz.func127, Tryz.ntmps127;go_wp2;go_ret;exact ⟨rfl, rfl⟩
set_option maxHeartbeats 1000000 in
theorem refargs_11 (w : World) : Calls Tryz.prog 127 #[.string (str [62, 61])] w fun e w' => e = .returned (.int .i64 2) ∧ w' = w := by
  go_enter Tryz.func127, Tryz.ntmps127;go_wp2;go_ret;exact ⟨rfl, rfl⟩
set_option maxHeartbeats 1000000 in
theorem refargs_12 (w : World) : Calls Tryz.prog 127 #[.string (str [43])] w fun e w' => e = .returned (.int .i64 2) ∧ w' = w := by
  go_enter Tryz.func127, Tryz.ntmps127;go_wp2;go_ret;exact ⟨rfl, rfl⟩
set_option maxHeartbeats 1000000 in
theorem refargs_13 (w : World) : Calls Tryz.prog 127 #[.string (str [45])] w fun e w' => e = .returned (.int .i64 2) ∧ w' = w := by
  go_enter Tryz.func127, Tryz.ntmps127;go_wp2;go_ret;exact ⟨rfl, rfl⟩
set_option maxHeartbeats 1000000 in
theorem refargs_14 (w : World) : Calls Tryz.prog 127 #[.string (str [42])] w fun e w' => e = .returned (.int .i64 2) ∧ w' = w := by
  go_enter Tryz.func127, Tryz.ntmps127;go_wp2;go_ret;exact ⟨rfl, rfl⟩
set_option maxHeartbeats 1000000 in
theorem refargs_15 (w : World) : Calls Tryz.prog 127 #[.string (str [47])] w fun e w' => e = .returned (.int .i64 2) ∧ w' = w := by
  go_enter Tryz.func127, Tryz.ntmps127;go_wp2;go_ret;exact ⟨rfl, rfl⟩
set_option maxHeartbeats 1000000 in
theorem refargs_16 (w : World) : Calls Tryz.prog 127 #[.string (str [37])] w fun e w' => e = .returned (.int .i64 2) ∧ w' = w := by
  go_enter Tryz.func127, Tryz.ntmps127;go_wp2;go_ret;exact ⟨rfl, rfl⟩
set_option maxHeartbeats 2000000 in
theorem refargs_none (s : List UInt8) (w : World) (h0 : ¬ s = [78, 79, 84]) (h1 : ¬ s = [73, 83, 78, 85, 76, 76]) (h2 : ¬ s = [78, 79, 84, 78, 85, 76, 76]) (h3 : ¬ s = [78, 69, 71]) (h4 : ¬ s = [79, 82]) (h5 : ¬ s = [65, 78, 68]) (h6 : ¬ s = [61]) (h7 : ¬ s = [60, 62]) (h8 : ¬ s = [60]) (h9 : ¬ s = [60, 61]) (h10 : ¬ s = [62]) (h11 : ¬ s = [62, 61]) (h12 : ¬ s = [43]) (h13 : ¬ s = [45]) (h14 : ¬ s = [42]) (h15 : ¬ s = [47]) (h16 : ¬ s = [37]) : Calls Tryz.prog 127 #[.string (str s)] w fun e w' => e = .returned (.int .i64 0) ∧ w' = w := by
  have e0 := str_no h0;have e1 := str_no h1;have e2 := str_no h2;have e3 := str_no h3;have e4 := str_no h4;have e5 := str_no h5;have e6 := str_no h6;have e7 := str_no h7;have e8 := str_no h8;have e9 := str_no h9;have e10 := str_no h10;have e11 := str_no h11;have e12 := str_no h12;have e13 := str_no h13;have e14 := str_no h14;have e15 := str_no h15;have e16 := str_no h16;go_enter Tryz.func127, Tryz.ntmps127;go_wp2;go_ret;exact ⟨rfl, rfl⟩
theorem refargs_any (s : List UInt8) (w : World) : Calls Tryz.prog 127 #[.string (str s)] w fun e w' => e = .returned (.int .i64 (argsD s)) ∧ w' = w := by
  by_cases h0 : s = [78, 79, 84]
  · subst h0; exact refargs_0 w
  by_cases h1 : s = [73, 83, 78, 85, 76, 76]
  · subst h1; exact refargs_1 w
  by_cases h2 : s = [78, 79, 84, 78, 85, 76, 76]
  · subst h2; exact refargs_2 w
  by_cases h3 : s = [78, 69, 71]
  · subst h3; exact refargs_3 w
  by_cases h4 : s = [79, 82]
  · subst h4; exact refargs_4 w
  by_cases h5 : s = [65, 78, 68]
  · subst h5; exact refargs_5 w
  by_cases h6 : s = [61]
  · subst h6; exact refargs_6 w
  by_cases h7 : s = [60, 62]
  · subst h7; exact refargs_7 w
  by_cases h8 : s = [60]
  · subst h8; exact refargs_8 w
  by_cases h9 : s = [60, 61]
  · subst h9; exact refargs_9 w
  by_cases h10 : s = [62]
  · subst h10; exact refargs_10 w
  by_cases h11 : s = [62, 61]
  · subst h11; exact refargs_11 w
  by_cases h12 : s = [43]
  · subst h12; exact refargs_12 w
  by_cases h13 : s = [45]
  · subst h13; exact refargs_13 w
  by_cases h14 : s = [42]
  · subst h14; exact refargs_14 w
  by_cases h15 : s = [47]
  · subst h15; exact refargs_15 w
  by_cases h16 : s = [37]
  · subst h16; exact refargs_16 w
  have e0 : argsN s = -1 := by
    unfold argsN;rw [if_neg (by simp only [wNOT, wISNULL, wNOTNULL, wNEG]; simp [*]), if_neg (by simp only [wOR, wAND]; simp [*])]
  have e : argsD s = 0 := by
    unfold argsD;rw [e0];rfl
  rw [e];exact refargs_none s w h0 h1 h2 h3 h4 h5 h6 h7 h8 h9 h10 h11 h12 h13 h14 h15 h16
theorem blankE_eq (k : Int) (s : List UInt8) (v : Val) (l : List Ex) : blankE (.mk k s v l) = (decide (k = 0) && (decide (s = []) && (decide (v = .zero) && decide (l.length = 0)))) := by
  unfold blankE Ex.zero;rw [sameE];cases l with
  | nil => simp [sameEs, Bool.and_assoc]
  | cons a l => simp [sameEs]
set_option maxRecDepth 100000 in
set_option maxHeartbeats 4000000 in
theorem refzero_any (e : Ex) (u : Value) (w : World) (hr : ExR w (fun _ => True) u e) : Calls Tryz.prog 65 #[exV u e] w (BoolP (blankE e) w) := by
  obtain ⟨k, s, v, l⟩ := e;obtain ⟨A, c, rfl, hc1, hc2⟩ := hr.toL.form;show Calls Tryz.prog 65 #[.agg #[.int .i64 k, .string (str s), .int .i64 v.kind, .int .i64 v.n, .string (str v.s), .slice A l.length c]] w (BoolP (blankE (.mk k s v l)) w);obtain ⟨X, hX⟩ : ∃ X, X = blankE (.mk k s v l) := ⟨_, rfl⟩;rw [← hX];rw [blankE_eq] at hX;have hA := (Same.refl (fun _ => True) w).alloc (.cells #[.int .i64 k, .string (str s), .int .i64 v.kind, .int .i64 v.n, .string (str v.s), .slice A l.length c] 34);have hrow := Row.new w 34 [.int .i64 k, .string (str s), .int .i64 v.kind, .int .i64 v.n, .string (str v.s), .slice A l.length c];have HX := LH hX;clear hX hr;go_enter Tryz.func65, Tryz.ntmps65;go_upto_region 1 with (fail);revert hA hrow;generalize w.alloc _ = w1;intro hA hrow;have HS := LH hA;have c0 := hrow.cell 0;have c1 := hrow.cell 1;have c2 := hrow.cell 2;have c3 := hrow.cell 3;have c4 := hrow.cell 4;have c5 := hrow.cell 5;simp only [LG] at c0 c1 c2 c3 c4 c5;clear hA hrow;by_cases h0 : k = 0
  · have e0 := int_eq_t h0;by_cases hs : s = []
    · by_cases hv : v = .zero
      · have hez : ∀ w, (binOp .eql 31 (.agg #[.int .i64 v.kind, .int .i64 v.n, .string (str v.s)]) (.agg #[.int .i64 0, .int .i64 0, .string ⟨#[]⟩])).run Tryz.prog w = .ok (.bool true) w := fun w => by
          have := eqV v .zero w;rw [decide_eq_true hv] at this;exact this
        by_cases hl0 : l.length = 0
        · have e3 : ((l.length : Int) == 0) = true := by rw [hl0]; rfl
          have HB : Hid (true = X) := LH (by rw [HX.out, decide_eq_true h0, decide_eq_true hs, decide_eq_true hv, decide_eq_true hl0]; rfl);clear h0 hv hl0;subst hs;go_wp2;go_ret;exact ⟨ret_bool HB.out, HS.out⟩
        · have e3 : ((l.length : Int) == 0) = false := no_k hl0;have HB : Hid (false = X) := LH (by rw [HX.out, decide_eq_false hl0]; simp);clear h0 hv hl0;subst hs;go_wp2;go_ret;exact ⟨ret_bool HB.out, HS.out⟩
      · have hez : ∀ w, (binOp .eql 31 (.agg #[.int .i64 v.kind, .int .i64 v.n, .string (str v.s)]) (.agg #[.int .i64 0, .int .i64 0, .string ⟨#[]⟩])).run Tryz.prog w = .ok (.bool false) w := fun w => by
          have := eqV v .zero w;rw [decide_eq_false hv] at this;exact this
        have HB : Hid (false = X) := LH (by rw [HX.out, decide_eq_false hv]; simp);clear h0 hv;subst hs;go_wp2;go_ret;exact ⟨ret_bool HB.out, HS.out⟩
    · have e2 := str_no hs;have HB : Hid (false = X) := LH (by rw [HX.out, decide_eq_false hs]; simp);clear h0;go_wp2;go_ret;exact ⟨ret_bool HB.out, HS.out⟩
  · have e0 := int_eq_f h0;have HB : Hid (false = X) := LH (by rw [HX.out, decide_eq_false h0]; simp);clear h0;go_wp2;go_ret;exact ⟨ret_bool HB.out, HS.out⟩
set_option maxRecDepth 100000 in
set_option maxHeartbeats 8000000 in
theorem refmayx_any : ∀ (e : Ex) (n : Nat) (u : Value) (w : World), n ≤ 16 → ExR w (fun _ => True) u e → Calls Tryz.prog 110 #[exV u e, .int .i64 (n : Int)] w (BoolP (mayE e n) w) := by
  apply Ex.ind;intro k s v l ih n u w hn hr;obtain ⟨A, c, rfl, hc1, hc2⟩ := hr.toL.form;have hl : ExL w (fun _ => True) (.slice A l.length c) l := hr.toL;have hc1 : l.length ≤ c := hc1;show Calls Tryz.prog 110 #[.agg #[.int .i64 k, .string (str s), .int .i64 v.kind, .int .i64 v.n, .string (str v.s), .slice A l.length c], .int .i64 (n : Int)] w (BoolP (mayE (.mk k s v l) n) w);unfold maxLen at hc2;obtain ⟨X, hX⟩ : ∃ X, X = mayE (.mk k s v l) n := ⟨_, rfl⟩;rw [← hX];rw [mayE] at hX;have HX := LH hX;have hA := (Same.refl (fun _ => True) w).alloc (.cells #[.int .i64 k, .string (str s), .int .i64 v.kind, .int .i64 v.n, .string (str v.s), .slice A l.length c] 34);have hrow := Row.new w 34 [.int .i64 k, .string (str s), .int .i64 v.kind, .int .i64 v.n, .string (str v.s), .slice A l.length c];have hl1 := hl.keepAll hA;have hlc : (l.length : Int) ≤ (c : Int) := by omega
  clear hX hr hl;go_enter Tryz.func110, Tryz.ntmps110;go_upto_region 1 with (fail);revert hA hrow hl1;generalize w.alloc _ = w1;intro hA hrow hl1;have HL := LH hl1;have HS := LH hA;generalize w.heap.size = g at *;have c0 := hrow.cell 0;have c1 := hrow.cell 1;have c2 := hrow.cell 2;have c3 := hrow.cell 3;have c4 := hrow.cell 4;have c5 := hrow.cell 5;simp only [LG] at c0 c1 c2 c3 c4 c5;have HROW := LH hrow;clear hA hl1 hrow;by_cases h0 : n = 0
  · have e0 : ((n : Int) == 0) = true := by rw [h0]; rfl
    have HB : Hid (false = X) := LH (by rw [HX.out, if_pos h0]);clear h0;go_wp2;go_ret;exact ⟨ret_bool HB.out, HS.out⟩
  have e0 : ((n : Int) == 0) = false := no_k h0;have hX := HX.out;rw [if_neg h0] at hX;have HX := LH hX;have hn1 : 1 ≤ n := by omega
  clear h0 hX;by_cases h1 : k = 1
  · have e1 : (k == 1) = true := by rw [h1]; rfl
    have hX := HX.out;rw [if_pos h1] at hX;have HX := LH hX;clear h1 hX;by_cases hl0 : l.length = 0
    · have e3 : ((l.length : Int) == 0) = true := by rw [hl0]; rfl
      by_cases hs : s = []
      · have HX2 : Hid ((mayV v && decide (0 ≤ v.n)) = X) := LH (by rw [HX.out, hl0, hs]; simp);clear hl0;subst hs;go_wp2_with (go_at_call 123; refine stopAt ?_);unfold Hid;refine (refMay_any v w1).mono ?_;rintro e w2 ⟨rfl, hS⟩;have HS := LH (HS.out.trans hS);have k3 := hS.cell (p := ⟨g, 3, none⟩) tv c3;clear hS;cases hv : mayV v
        · have HB : Hid (false = X) := LH (by rw [← HX2.out, hv]; rfl);clear hv;go_wp2;go_ret;exact ⟨ret_bool HB.out, HS.out⟩
        · have HB : Hid (decide (0 ≤ v.n) = X) := LH (by rw [← HX2.out, hv]; rfl);clear hv;go_wp2;go_ret;exact ⟨ret_bool HB.out, HS.out⟩
      · have e2 := str_no hs;have HB : Hid (false = X) := LH (by rw [HX.out, decide_eq_false hs]; simp);clear hl0;go_wp2;go_ret;exact ⟨ret_bool HB.out, HS.out⟩
    · have e3 : ((l.length : Int) == 0) = false := no_k hl0;have HB : Hid (false = X) := LH (by rw [HX.out, decide_eq_false hl0]; simp);clear hl0;go_wp2;go_ret;exact ⟨ret_bool HB.out, HS.out⟩
  have e1 : (k == 1) = false := by simpa using h1
  have hX := HX.out;rw [if_neg h1] at hX;have HX := LH hX;clear h1 hX;by_cases h2 : k = 2
  · have e2 : (k == 2) = true := by rw [h2]; rfl
    have hX := HX.out;rw [if_pos h2] at hX;have HX := LH hX;clear h2 hX;by_cases hl0 : l.length = 0
    · have e3 : ((l.length : Int) == 0) = true := by rw [hl0]; rfl
      by_cases hv : v = .zero
      · have hez : ∀ w, (binOp .eql 31 (.agg #[.int .i64 v.kind, .int .i64 v.n, .string (str v.s)]) (.agg #[.int .i64 0, .int .i64 0, .string ⟨#[]⟩])).run Tryz.prog w = .ok (.bool true) w := fun w => by
          have := eqV v .zero w;rw [decide_eq_true hv] at this;exact this
        have HB : Hid (wordF s = X) := LH (by rw [HX.out, hl0, decide_eq_true hv]; simp);clear hl0 hv;go_wp2_with (go_at_call 63; refine stopAt ?_);unfold Hid;refine (refword_all s w1).mono ?_;rintro e w2 ⟨rfl, hS⟩;have HS := LH (HS.out.trans hS);clear hS;go_wp2;go_ret;exact ⟨ret_bool HB.out, HS.out⟩
      · have hez : ∀ w, (binOp .eql 31 (.agg #[.int .i64 v.kind, .int .i64 v.n, .string (str v.s)]) (.agg #[.int .i64 0, .int .i64 0, .string ⟨#[]⟩])).run Tryz.prog w = .ok (.bool false) w := fun w => by
          have := eqV v .zero w;rw [decide_eq_false hv] at this;exact this
        have HB : Hid (false = X) := LH (by rw [HX.out, decide_eq_false hv]; simp);clear hv hl0;go_wp2;go_ret;exact ⟨ret_bool HB.out, HS.out⟩
    · have e3 : ((l.length : Int) == 0) = false := no_k hl0;have HB : Hid (false = X) := LH (by rw [HX.out, decide_eq_false hl0]; simp);clear hl0;go_wp2;go_ret;exact ⟨ret_bool HB.out, HS.out⟩
  have e2 : (k == 2) = false := by simpa using h2
  have hX := HX.out;rw [if_neg h2] at hX;have HX := LH hX;clear h2 hX;by_cases h3 : k = 3
  · have e3 : (k == 3) = true := by rw [h3]; rfl
    have qa := fun n => refargs_any s (w1.drewN n)
    by_cases hv : v = .zero
    · have hez : ∀ w, (binOp .neq 31 (.agg #[.int .i64 v.kind, .int .i64 v.n, .string (str v.s)]) (.agg #[.int .i64 0, .int .i64 0, .string ⟨#[]⟩])).run Tryz.prog w = .ok (.bool false) w := fun w => by
        have := neV v .zero w;rw [decide_eq_true hv] at this;exact this
      by_cases ha0 : argsD s = 0
      · have e4 : (argsD s == 0) = true := by rw [ha0]; rfl
        have HB : Hid (false = X) := LH (by
          have h5 : argsN s = -1 := by
            unfold argsD at ha0;split at ha0
            · assumption
            · rcases args_range s with h | h | h <;> omega
          rw [HX.out, h5, decide_eq_false (show ¬ (l.length : Int) = -1 by omega)]; simp)
        clear h3 hv ha0;generalize argsD s = aD at *;go_wp2;go_quiet ((go_at_call 127; exact Calls.quiet_of_same (qa _)));go_wp2;go_ret;exact ⟨ret_bool HB.out, HS.out.drewN _⟩
      have e4 : (argsD s == 0) = false := int_eq_f ha0
      have h5 : argsD s = argsN s := by
        unfold argsD at ha0 ⊢;by_cases h : argsN s = -1
        · rw [if_pos h] at ha0; exact absurd rfl ha0
        · rw [if_neg h]
      by_cases hN : (l.length : Int) = argsN s
      · have e5 : ((l.length : Int) != argsD s) = false := ne_f (by rw [h5]; exact hN);have HX2 : Hid (X = mayEs l (n - 1)) := LH (by rw [HX.out, decide_eq_true h3, decide_eq_true hv, decide_eq_true hN]; simp);clear h3 hv hN ha0 h5;generalize argsD s = aD at *;go_wp2;go_quiet ((go_at_call 127; exact Calls.quiet_of_same (qa _)));generalize hW : w1.drewN _ = wR;have hsR : Same (fun _ => True) w1 wR := hW ▸ SR.drewN _;clear hW;have HS := LH (HS.out.trans hsR);have HL := LH (HL.out.keepAll hsR);have HROW := LH (HROW.out.keep hsR tv);have k5 := hsR.cell (p := ⟨g, 5, none⟩) tv c5;clear c0 c1 c2 c3 c4 c5 hsR qa;go_wp2;go_loopw [5] (fun i wr => ∃ q : Nat, i = .int .i64 (q : Int) ∧ q ≤ l.length ∧ X = mayEs (l.drop q) (n - 1) ∧ Same (fun _ => True) wR wr) (fun i _ => l.length - (intOf i).toNat)
        case atStart => exact ⟨0, rfl, Nat.zero_le _, HX2.out, Same.refl _ _⟩
        case round =>
          obtain ⟨q, rfl, hq, hx, hS⟩ := hrel;have x1 : (0 : Int) ≤ (q : Int) := by omega
          have HS2 := LH hS;have HL2 := LH (HL.out.keepAll hS);have j5 := hS.cell (p := ⟨g, 5, none⟩) tv k5;clear hS;by_cases hql : q < l.length
          · have x2 : (q : Int) < (l.length : Int) := by omega
            obtain ⟨ad, uq, rfl, -, hlq, d0, d1, d2, d3, d4, d5⟩ := ExL.cells HL2.out hql;obtain ⟨Aq, cq, rfl, -, -⟩ := hlq.form;have hd : l.drop q = l[q] :: l.drop (q + 1) := List.drop_eq_getElem_cons hql;rw [hd, mayEs_cons] at hx;have HXq := LH hx;have hmem : l[q] ∈ l := List.getElem_mem hql;have hi := ih l[q] hmem (n - 1) (.slice Aq l[q].args.length cq) wr (by omega) ((ExR.iff _ l[q]).2 hlq);have hn2 : ((n - 1 : Nat) : Int) = (n : Int) - 1 := by omega
            rw [hn2] at hi;clear hx hd hmem hlq ih;go_wp2_with (go_at_call 110; refine stopAt ?_);unfold Hid;refine (show Calls _ _ _ _ _ from hi).mono ?_;rintro e w5 ⟨rfl, hS⟩;have HS5 := LH (HS2.out.trans hS);clear hS hi;cases hb : mayE l[q] (n - 1)
            · have HB : Hid (false = X) := LH (by rw [HXq.out, hb]; rfl);clear hb;go_wp2;go_ret;exact ⟨ret_bool HB.out, HS.out.trans HS5.out⟩
            · have HB : Hid (X = mayEs (l.drop (q + 1)) (n - 1)) := LH (by rw [HXq.out, hb]; rfl);clear hb;go_wp2;go_roundw
              case rel => exact ⟨q + 1, by go_num, by omega, HB.out, HS5.out⟩
              case measure => simp [intOf]; omega
          · obtain rfl : q = l.length := by omega
            rw [List.drop_length] at hx;have HB : Hid (true = X) := LH (by rw [hx, mayEs]);clear hx;go_wp2;go_ret;exact ⟨ret_bool HB.out, HS.out.trans HS2.out⟩
      · have e5 : ((l.length : Int) != argsD s) = true := ne_t (by rw [h5]; exact hN);have HB : Hid (false = X) := LH (by rw [HX.out, decide_eq_false hN]; simp);clear h3 hv hN ha0 h5;generalize argsD s = aD at *;go_wp2;go_quiet ((go_at_call 127; exact Calls.quiet_of_same (qa _)));go_wp2;go_ret;exact ⟨ret_bool HB.out, HS.out.drewN _⟩
    · have hez : ∀ w, (binOp .neq 31 (.agg #[.int .i64 v.kind, .int .i64 v.n, .string (str v.s)]) (.agg #[.int .i64 0, .int .i64 0, .string ⟨#[]⟩])).run Tryz.prog w = .ok (.bool true) w := fun w => by
        have := neV v .zero w;rw [decide_eq_false hv] at this;exact this
      have HB : Hid (false = X) := LH (by rw [HX.out, decide_eq_false hv]; simp);clear h3 hv;go_wp2;go_quiet ((go_at_call 127; exact Calls.quiet_of_same (qa _)));go_wp2;go_ret;exact ⟨ret_bool HB.out, HS.out.drewN _⟩
  · have e3 : (k == 3) = false := by simpa using h3
    have HB : Hid (false = X) := LH (by rw [HX.out, decide_eq_false h3]; simp);clear h3;go_wp2;go_ret;exact ⟨ret_bool HB.out, HS.out⟩
set_option maxHeartbeats 1000000 in
theorem refmay_any (e : Ex) (u : Value) (w : World) (h : ExR w (fun _ => True) u e) : Calls Tryz.prog 64 #[exV u e] w (BoolP (mayE e 16) w) := by
  obtain ⟨A, c, rfl, hc1, hc2⟩ := h.toL.form;have hA := (Same.refl (fun _ => True) w).alloc (.cells #[.int .i64 e.kind, .string (str e.s), .int .i64 e.v.kind, .int .i64 e.v.n, .string (str e.v.s), .slice A e.args.length c] 34);have H := LH (refmayx_any e 16 _ _ (by omega) (h.keepAll hA));have H0 := LH (refmayx_any e 16 _ _ (by omega) h);have HA := LH hA;clear h hA;go_enter Tryz.func64, Tryz.ntmps64;go_wp2_with (go_at_call 110; refine stopAt ?_);unfold Hid
  first
  | (refine (show Calls _ _ _ _ _ from H.out).mono ?_
     rintro e' w2 ⟨rfl, hS⟩;have HS := LH (HA.out.trans hS);clear hS;go_wp2;go_ret
     exact ⟨rfl, HS.out⟩)
  | (refine (show Calls _ _ _ _ _ from H0.out).mono ?_
     rintro e' w2 ⟨rfl, hS⟩;have HS := LH hS;clear hS;go_wp2;go_ret
     exact ⟨rfl, HS.out⟩)
theorem eq_of_nf {x : Bool} (h : false = !x) : x = true := by cases x <;> simp_all
theorem eq_of_nt {x : Bool} (h : true = !x) : x = false := by cases x <;> simp_all
def selB (s : Stm) : Bool := mayIs s.items && ((decide (s.order = []) && !s.down) || wordF s.order) && decide (-1 ≤ s.limit)
theorem selB_eq (s : Stm) : selB s = ((decide (-1 ≤ s.limit) && (((decide (s.order = []) && !s.down) || wordF s.order) && (decide (1 ≤ s.items.length) && decide (s.items.length ≤ 6)))) && s.items.all (mayI s.items.length)) := by
 unfold selB mayIs;ac_rfl
set_option maxRecDepth 100000 in
set_option maxHeartbeats 16000000 in
theorem refmaysel_any (s : Stm) (u : SU) (w : World) (h : StR w (fun _ => True) u s) : Calls Tryz.prog 66 #[stV u s] w (BoolP (selB s) w) := by
 obtain ⟨kd, tb, its, rws, sts, ft, cd, od, dn, lm⟩ := s;obtain ⟨ui, ur, us, uc⟩ := u;obtain ⟨Ai, ci, q1, i1, i2⟩ := LsR.form (show LsR itCs 7 itOk _ _ ui its from h.1);subst q1;obtain ⟨Ar, cr, q1, i3, i4⟩ := LsR.form (show LsR rwCs 1 rwOk _ _ ur rws from h.2.1);subst q1;obtain ⟨As, cs_, q1, i5, i6⟩ := LsR.form (show LsR asCs 7 asOk _ _ us sts from h.2.2.1);subst q1;obtain ⟨Ac, cc, q1, -⟩ := (show ExR _ _ uc cd from h.2.2.2).toL.form;subst q1;unfold maxLen at i2 i4 i6;show Calls Tryz.prog 66 #[.agg #[.int .i64 kd, .string (str tb), .slice Ai its.length ci, .slice Ar rws.length cr, .slice As sts.length cs_, .bool ft, .int .i64 cd.kind, .string (str cd.s), .int .i64 cd.v.kind, .int .i64 cd.v.n, .string (str cd.v.s), .slice Ac cd.args.length cc, .string (str od), .bool dn, .int .i64 lm]] w (BoolP (selB ⟨kd, tb, its, rws, sts, ft, cd, od, dn, lm⟩) w);have hA := (Same.refl (fun _ => True) w).alloc (.cells #[.int .i64 kd, .string (str tb), .slice Ai its.length ci, .slice Ar rws.length cr, .slice As sts.length cs_, .bool ft, .int .i64 cd.kind, .string (str cd.s), .int .i64 cd.v.kind, .int .i64 cd.v.n, .string (str cd.v.s), .slice Ac cd.args.length cc, .string (str od), .bool dn, .int .i64 lm] 44);have hrow := Row.new w 44 [.int .i64 kd, .string (str tb), .slice Ai its.length ci, .slice Ar rws.length cr, .slice As sts.length cs_, .bool ft, .int .i64 cd.kind, .string (str cd.s), .int .i64 cd.v.kind, .int .i64 cd.v.n, .string (str cd.v.s), .slice Ac cd.args.length cc, .string (str od), .bool dn, .int .i64 lm];have hok := stK.keep h hA;have HIT := LH (show LsR itCs 7 itOk _ _ _ its from hok.1);have HRW := LH (show LsR rwCs 1 rwOk _ _ _ rws from hok.2.1);have HAS := LH (show LsR asCs 7 asOk _ _ _ sts from hok.2.2.1);have HCO := LH (show ExR _ _ _ cd from hok.2.2.2);obtain ⟨X, hX⟩ : ∃ X, X = selB ⟨kd, tb, its, rws, sts, ft, cd, od, dn, lm⟩ := ⟨_, rfl⟩;rw [← hX];have HX := LH hX;clear hX;clear h hok;go_enter Tryz.func66, Tryz.ntmps66;go_upto_region 1 with (fail);revert hA hrow HIT HRW HAS HCO;generalize w.alloc _ = w1;intro hA hrow HIT HRW HAS HCO;have HS := LH hA;have HROW := LH hrow;clear hA hrow;generalize w.heap.size = g at *;have c2 := HROW.out.cell 2;have c12 := HROW.out.cell 12;have c13 := HROW.out.cell 13;have c14 := HROW.out.cell 14;simp only [LG] at c2 c12 c13 c14;go_cut [39] from 5 to 78 (fun v wx => ∃ (W : World) (b : Bool), W = wx ∧ v = .bool b ∧ Hid (b = !(decide (-1 ≤ lm) && (((decide (od = []) && !dn) || wordF od) && (decide (1 ≤ its.length) && decide (its.length ≤ 6))))) ∧ Same (fun _ => True) w1 W)
 case first =>
  clear HX;by_cases h0 : lm < -1
  ·have e0 := decide_eq_true h0;have HB : Hid (true = !(decide (-1 ≤ lm) && (((decide (od = []) && !dn) || wordF od) && (decide (1 ≤ its.length) && decide (its.length ≤ 6))))) := LH (by rw [decide_eq_false (show ¬ -1 ≤ lm by omega)]; rfl);clear h0;go_wp2;go_meet;exact ⟨_, true, rfl, rfl, HB, Same.refl _ _⟩
  have e0 : decide (lm < -1) = false := decide_eq_false h0;by_cases ho : od = []
  ·have hw : wordF [] = false := rfl;subst ho;cases dn
   ·by_cases h1 : (its.length : Int) < 1
    ·have e6 := decide_eq_true h1;have HB : Hid (true = !(decide (-1 ≤ lm) && (((decide (([] : List UInt8) = []) && !false) || wordF []) && (decide (1 ≤ its.length) && decide (its.length ≤ 6))))) := LH (by rw [decide_eq_false (show ¬ 1 ≤ its.length by omega)]; simp);clear h1;go_wp2;go_meet;exact ⟨_, true, rfl, rfl, HB, Same.refl _ _⟩
    have e6 : decide ((its.length : Int) < 1) = false := decide_eq_false h1;by_cases h6 : (6 : Int) < (its.length : Int)
    ·have e7 := decide_eq_true h6;have HB : Hid (true = !(decide (-1 ≤ lm) && (((decide (([] : List UInt8) = []) && !false) || wordF []) && (decide (1 ≤ its.length) && decide (its.length ≤ 6))))) := LH (by rw [decide_eq_false (show ¬ its.length ≤ 6 by omega)]; simp);clear h1 h6;go_wp2;go_meet;exact ⟨_, true, rfl, rfl, HB, Same.refl _ _⟩
    have e7 : decide ((6 : Int) < (its.length : Int)) = false := decide_eq_false h6;have HB : Hid (false = !(decide (-1 ≤ lm) && (((decide (([] : List UInt8) = []) && !false) || wordF []) && (decide (1 ≤ its.length) && decide (its.length ≤ 6))))) := LH (by rw [decide_eq_true (show 1 ≤ its.length by omega), decide_eq_true (show its.length ≤ 6 by omega), decide_eq_true (show -1 ≤ lm by omega)]; simp);clear h1 h6 h0;go_wp2;go_meet;exact ⟨_, false, rfl, rfl, HB, Same.refl _ _⟩

   ·have HB : Hid (true = !(decide (-1 ≤ lm) && (((decide (([] : List UInt8) = []) && !true) || wordF []) && (decide (1 ≤ its.length) && decide (its.length ≤ 6))))) := LH (by rw [hw]; simp)
    clear h0
    go_wp2
    go_meet
    exact ⟨_, true, rfl, rfl, HB, Same.refl _ _⟩
  ·have e1 := str_ne_t ho
   have e2 := str_no ho
   go_wp2_with (go_at_call 63; refine stopAt ?_)
   unfold Hid
   refine (refword_all od w1).mono ?_
   rintro e w2 ⟨rfl, hS⟩
   have HSx := LH hS
   have HROW := LH (HROW.out.keep hS tv)
   clear hS c2 c12 c13 c14
   have c2 := HROW.out.cell 2
   have c12 := HROW.out.cell 12
   have c13 := HROW.out.cell 13
   have c14 := HROW.out.cell 14
   simp only [LG] at c2 c12 c13 c14
   cases hw : wordF od
   ·have HB : Hid (true = !(decide (-1 ≤ lm) && (((decide (od = []) && !dn) || wordF od) && (decide (1 ≤ its.length) && decide (its.length ≤ 6))))) := LH (by rw [hw, decide_eq_false ho]; simp)
    clear h0 hw ho
    go_wp2
    go_meet
    exact ⟨_, true, rfl, rfl, HB, HSx.out⟩
   ·by_cases h1 : (its.length : Int) < 1
    ·have e6 := decide_eq_true h1
     have HB : Hid (true = !(decide (-1 ≤ lm) && (((decide (od = []) && !dn) || wordF od) && (decide (1 ≤ its.length) && decide (its.length ≤ 6))))) := LH (by rw [decide_eq_false (show ¬ 1 ≤ its.length by omega)]; simp)
     clear h1
     go_wp2
     go_meet
     exact ⟨_, true, rfl, rfl, HB, HSx.out⟩
    have e6 : decide ((its.length : Int) < 1) = false := decide_eq_false h1
    by_cases h6 : (6 : Int) < (its.length : Int)
    ·have e7 := decide_eq_true h6
     have HB : Hid (true = !(decide (-1 ≤ lm) && (((decide (od = []) && !dn) || wordF od) && (decide (1 ≤ its.length) && decide (its.length ≤ 6))))) := LH (by rw [decide_eq_false (show ¬ its.length ≤ 6 by omega)]; simp)
     clear h1 h6
     go_wp2
     go_meet
     exact ⟨_, true, rfl, rfl, HB, HSx.out⟩
    have e7 : decide ((6 : Int) < (its.length : Int)) = false := decide_eq_false h6
    have HB : Hid (false = !(decide (-1 ≤ lm) && (((decide (od = []) && !dn) || wordF od) && (decide (1 ≤ its.length) && decide (its.length ≤ 6))))) := LH (by rw [decide_eq_true (show 1 ≤ its.length by omega), decide_eq_true (show its.length ≤ 6 by omega), decide_eq_true (show -1 ≤ lm by omega)]; rw [hw]; simp)
    clear h1 h6 h0
    go_wp2
    go_meet
    exact ⟨_, false, rfl, rfl, HB, HSx.out⟩
 case rest =>
 obtain ⟨w2, b, rfl, rfl, HB, hS⟩ := hcut
 have HS := LH (HS.out.trans hS)
 have HROW := LH (HROW.out.keep hS tv)
 have HIT := LH (HIT.out.keepAll itK hS)
 have HRW := LH (HRW.out.keepAll rwK hS)
 have HAS := LH (HAS.out.keepAll asK hS)
 have HCO := LH (HCO.out.keepAll hS)
 clear hS c2 c12 c13 c14
 have c2 := HROW.out.cell 2
 simp only [LG] at c2
 cases b
 ·have HX : Hid (X = its.all (mayI its.length)) := LH (by
   rw [HX.out, selB_eq];dsimp only
   rw [eq_of_nf HB.out, Bool.true_and])
  clear HB;go_wp2;go_loopw [3] (fun i wr => ∃ q : Nat, i = .int .i64 (q : Int) ∧ q ≤ its.length ∧ X = (its.drop q).all (mayI its.length) ∧ Same (fun _ => True) w2 wr) (fun i _ => its.length - (intOf i).toNat)
  case atStart => exact ⟨0, rfl, Nat.zero_le _, HX.out, Same.refl _ _⟩
  case round =>
   obtain ⟨q, rfl, hq, hx, hS⟩ := hrel;have x1 : (0 : Int) ≤ (q : Int) := by omega
   have HS2 := LH hS;have HIT2 := LH (HIT.out.keepAll itK hS);have HROW2 := LH (HROW.out.keep hS tv);clear hS c2;have c2 := HROW2.out.cell 2;simp only [LG] at c2;by_cases hql : q < its.length
   ·have x2 : (q : Int) < (its.length : Int) := by omega
    obtain ⟨ad, uq, rfl, hok, hcl⟩ := LsR.at_ HIT2.out itCs_len hql;obtain ⟨A_u, c_u, rfl, -, -⟩ := (show ExR _ _ uq its[q].e from hok).toL.form;have d0 := hcl 0 (by omega);rw [add_zero] at d0;have d1 := hcl 1 (by omega);rw [addr_add _ _ (by omega)] at d1;have d2 := hcl 2 (by omega);rw [addr_add _ _ (by omega)] at d2;have d3 := hcl 3 (by omega);rw [addr_add _ _ (by omega)] at d3;have d4 := hcl 4 (by omega);rw [addr_add _ _ (by omega)] at d4;have d5 := hcl 5 (by omega);rw [addr_add _ _ (by omega)] at d5;have d6 := hcl 6 (by omega);rw [addr_add _ _ (by omega)] at d6;simp only [itCs, exCs, LG] at d0 d1 d2 d3 d4 d5 d6;have HEX := LH (show ExR _ _ _ its[q].e from hok);have hd : its.drop q = its[q] :: its.drop (q + 1) := List.drop_eq_getElem_cons hql;rw [hd, List.all_cons] at hx;have HXq := LH hx;clear hx hd hok hcl;generalize its[q] = y at *;have hB := (Same.refl (fun _ => True) wr).alloc (.cells #[.int .i64 y.kind, .int .i64 y.e.kind, .string (str y.e.s), .int .i64 y.e.v.kind, .int .i64 y.e.v.n, .string (str y.e.v.s), .slice A_u y.e.args.length c_u] 63);have hrow2 := Row.new wr 63 [.int .i64 y.kind, .int .i64 y.e.kind, .string (str y.e.s), .int .i64 y.e.v.kind, .int .i64 y.e.v.n, .string (str y.e.v.s), .slice A_u y.e.args.length c_u];go_upto_region 7 with (fail);have hex2 := HEX.out.keepAll hB;have hs5 := HS2.out.trans hB;have hro5 := HROW2.out.keep hB tv;revert hB hrow2 hex2 hs5 hro5;generalize wr.alloc _ = w5;generalize wr.heap.size = gI;intro hB hrow2 hex2 hs5 hro5;clear HEX HROW2 HS2 HIT2 d0 d1 d2 d3 d4 d5 d6 c2;have HEX := LH hex2;have HS5 := LH hs5;have c2 := hro5.cell 2;simp only [LG] at c2;obtain ⟨d0, d1, d2, d3, d4, d5, d6⟩ := CN7 hrow2;clear hB hrow2 hex2 hs5 hro5;by_cases k1 : y.kind = 1
    ·have f1 := int_eq_t k1;by_cases hl : (1 : Int) < (its.length : Int)
     ·have f2 := decide_eq_true hl;have HB : Hid (false = X) := LH (by rw [HXq.out]; unfold mayI; rw [if_pos k1, decide_eq_false (show ¬ its.length ≤ 1 by omega)]; rfl);clear k1 hl;go_wp2;go_ret;exact ⟨ret_bool HB.out, HS.out.trans HS5.out⟩
     ·have f2 : decide ((1 : Int) < (its.length : Int)) = false := decide_eq_false hl;have HK : Hid (mayI its.length y = blankE y.e) := LH (by unfold mayI; rw [if_pos k1, decide_eq_true (show its.length ≤ 1 by omega)]; rfl);clear k1 hl;go_wp2_with (go_at_call 65; refine stopAt ?_);unfold Hid;refine (show Calls _ _ _ _ _ from refzero_any y.e _ _ HEX.out).mono ?_;rintro e w7 ⟨rfl, hS⟩;have HS7 := LH (HS5.out.trans hS);clear hS;cases hb : blankE y.e
      ·have HB : Hid (false = X) := LH (by rw [HXq.out, HK.out, hb]; rfl);clear hb;go_wp2;go_ret;exact ⟨ret_bool HB.out, HS.out.trans HS7.out⟩
      ·have HB : Hid (X = (its.drop (q + 1)).all (mayI its.length)) := LH (by rw [HXq.out, HK.out, hb]; rfl);clear hb;go_wp2;go_roundw
       case rel => exact ⟨q + 1, by go_num, by omega, HB.out, HS7.out⟩
       case measure => simp [intOf]; omega
    have f1 := int_eq_f k1;by_cases k3 : y.kind = 3
    ·have f3 := int_eq_t k3;have HK : Hid (mayI its.length y = blankE y.e) := LH (by unfold mayI; rw [if_neg k1, if_pos k3]);clear k1 k3;go_wp2_with (go_at_call 65; refine stopAt ?_);unfold Hid;refine (show Calls _ _ _ _ _ from refzero_any y.e _ _ HEX.out).mono ?_;rintro e w7 ⟨rfl, hS⟩;have HS7 := LH (HS5.out.trans hS);clear hS;cases hb : blankE y.e
     ·have HB : Hid (false = X) := LH (by rw [HXq.out, HK.out, hb]; rfl);clear hb;go_wp2;go_ret;exact ⟨ret_bool HB.out, HS.out.trans HS7.out⟩
     ·have HB : Hid (X = (its.drop (q + 1)).all (mayI its.length)) := LH (by rw [HXq.out, HK.out, hb]; rfl);clear hb;go_wp2;go_roundw
      case rel => exact ⟨q + 1, by go_num, by omega, HB.out, HS7.out⟩
      case measure => simp [intOf]; omega
    have f3 := int_eq_f k3;by_cases k2 : y.kind = 2
    ·have f4 := int_eq_t k2;have HK : Hid (mayI its.length y = mayE y.e 16) := LH (by unfold mayI; rw [if_neg k1, if_neg k3, if_pos (.inl k2)]);clear k1 k3 k2;go_wp2_with (go_at_call 64; refine stopAt ?_);unfold Hid;refine (show Calls _ _ _ _ _ from refmay_any y.e _ _ HEX.out).mono ?_;rintro e w7 ⟨rfl, hS⟩;have HS7 := LH (HS5.out.trans hS);clear hS;cases hb : mayE y.e 16
     ·have HB : Hid (false = X) := LH (by rw [HXq.out, HK.out, hb]; rfl);clear hb;go_wp2;go_ret;exact ⟨ret_bool HB.out, HS.out.trans HS7.out⟩
     ·have HB : Hid (X = (its.drop (q + 1)).all (mayI its.length)) := LH (by rw [HXq.out, HK.out, hb]; rfl);clear hb;go_wp2;go_roundw
      case rel => exact ⟨q + 1, by go_num, by omega, HB.out, HS7.out⟩
      case measure => simp [intOf]; omega
    have f4 := int_eq_f k2;by_cases k4 : y.kind = 4
    ·have f5 := int_eq_t k4;have HK : Hid (mayI its.length y = mayE y.e 16) := LH (by unfold mayI; rw [if_neg k1, if_neg k3, if_pos (.inr k4)]);clear k1 k3 k2 k4;go_wp2_with (go_at_call 64; refine stopAt ?_);unfold Hid;refine (show Calls _ _ _ _ _ from refmay_any y.e _ _ HEX.out).mono ?_;rintro e w7 ⟨rfl, hS⟩;have HS7 := LH (HS5.out.trans hS);clear hS;cases hb : mayE y.e 16
     ·have HB : Hid (false = X) := LH (by rw [HXq.out, HK.out, hb]; rfl);clear hb;go_wp2;go_ret;exact ⟨ret_bool HB.out, HS.out.trans HS7.out⟩
     ·have HB : Hid (X = (its.drop (q + 1)).all (mayI its.length)) := LH (by rw [HXq.out, HK.out, hb]; rfl);clear hb;go_wp2;go_roundw
      case rel => exact ⟨q + 1, by go_num, by omega, HB.out, HS7.out⟩
      case measure => simp [intOf]; omega
    have f5 := int_eq_f k4;have HB : Hid (false = X) := LH (by rw [HXq.out]; unfold mayI; rw [if_neg k1, if_neg k3, if_neg (by rintro (h | h) <;> contradiction)]; rfl);clear k1 k3 k2 k4;go_wp2;go_ret;exact ⟨ret_bool HB.out, HS.out.trans HS5.out⟩
   ·obtain rfl : q = its.length := by omega
    rw [List.drop_length] at hx;have HB : Hid (true = X) := LH (by rw [hx]; rfl);clear hx;go_wp2;go_ret;exact ⟨ret_bool HB.out, HS.out.trans HS2.out⟩
 ·have HB : Hid (false = X) := LH (by
   rw [HX.out, selB_eq];dsimp only
   rw [eq_of_nt HB.out, Bool.false_and])
  go_wp2;go_ret;exact ⟨ret_bool HB.out, HS.out⟩
end Go.Proofs.YtdfojghhpdkpfaaGreatDoor
