/-
  Words, plain models, laws and walks that the claims of this layer share (joined by shake.py). No condition.
-/
import Derived.Test.YtdfojghhpdkpfaaGreatDoorG11
set_option linter.unusedSimpArgs false
set_option linter.unusedVariables false
namespace Go.Proofs.YtdfojghhpdkpfaaGreatDoor
open Go.RowKit
theorem len0 {α : Type} [DecidableEq α] (l : List α) : decide (l = []) = decide (l.length = 0) := by cases l <;> simp
theorem mayS_k1 (tb : List UInt8) (its : List Itm) (rws : List (List Ex)) (sts : List Asn) (ft : Bool) (cd : Ex) (od : List UInt8) (dn : Bool) (lm : Int) : mayS ⟨1, tb, its, rws, sts, ft, cd, od, dn, lm⟩ = ((wordF tb && (if ft then mayE cd 16 else blankE cd)) && (decide (rws.length = 0) && (decide (sts.length = 0) && selB ⟨1, tb, its, rws, sts, ft, cd, od, dn, lm⟩))) := by
 have hm : (sts.all fun x => wordF x.name && mayE x.e 16) = sts.all mayAsn := rfl;simp only [mayS, selB, mayRows, maySets, len0, hm, if_true];generalize sts.all mayAsn = y1;generalize rws.all mayRow = y2;simp [Bool.and_assoc, Bool.and_comm, Bool.and_left_comm]
theorem mayS_k2 (tb : List UInt8) (its : List Itm) (rws : List (List Ex)) (sts : List Asn) (ft : Bool) (cd : Ex) (od : List UInt8) (dn : Bool) (lm : Int) : mayS ⟨2, tb, its, rws, sts, ft, cd, od, dn, lm⟩ = ((wordF tb && (if ft then mayE cd 16 else blankE cd)) && (decide (its.length = 0) && (decide (od = []) && (!dn && (decide (lm = 0) && (decide (sts.length = 0) && (rws.all mayRow && (decide (1 ≤ rws.length) && (decide (rws.length ≤ 16) && !ft))))))))) := by
 have hm : (sts.all fun x => wordF x.name && mayE x.e 16) = sts.all mayAsn := rfl;simp only [mayS, selB, mayRows, maySets, len0, hm, if_true];generalize sts.all mayAsn = y1;generalize rws.all mayRow = y2;simp [Bool.and_assoc, Bool.and_comm, Bool.and_left_comm]
theorem mayS_k3 (tb : List UInt8) (its : List Itm) (rws : List (List Ex)) (sts : List Asn) (ft : Bool) (cd : Ex) (od : List UInt8) (dn : Bool) (lm : Int) : mayS ⟨3, tb, its, rws, sts, ft, cd, od, dn, lm⟩ = ((wordF tb && (if ft then mayE cd 16 else blankE cd)) && (decide (its.length = 0) && (decide (od = []) && (!dn && (decide (lm = 0) && (decide (rws.length = 0) && (sts.all mayAsn && (decide (1 ≤ sts.length) && decide (sts.length ≤ 6))))))))) := by
 have hm : (sts.all fun x => wordF x.name && mayE x.e 16) = sts.all mayAsn := rfl;simp only [mayS, selB, mayRows, maySets, len0, hm, if_true];generalize sts.all mayAsn = y1;generalize rws.all mayRow = y2;simp [Bool.and_assoc, Bool.and_comm, Bool.and_left_comm]
theorem mayS_k4 (kd : Int) (tb : List UInt8) (its : List Itm) (rws : List (List Ex)) (sts : List Asn) (ft : Bool) (cd : Ex) (od : List UInt8) (dn : Bool) (lm : Int) (h1 : ¬ kd = 1) (h2 : ¬ kd = 2) (h3 : ¬ kd = 3) : mayS ⟨kd, tb, its, rws, sts, ft, cd, od, dn, lm⟩ = ((wordF tb && (if ft then mayE cd 16 else blankE cd)) && (decide (its.length = 0) && (decide (od = []) && (!dn && (decide (lm = 0) && (decide (rws.length = 0) && (decide (sts.length = 0) && decide (kd = 4)))))))) := by
 have hm : (sts.all fun x => wordF x.name && mayE x.e 16) = sts.all mayAsn := rfl;simp only [mayS, selB, mayRows, maySets, len0, hm, if_pos, if_neg, h1, h2, h3];generalize sts.all mayAsn = y1;generalize rws.all mayRow = y2;simp [Bool.and_assoc, Bool.and_comm, Bool.and_left_comm]
set_option maxRecDepth 100000 in
set_option maxHeartbeats 16000000 in
theorem refmays_1 (s : Stm) (u : SU) (w : World) (h : StR w (fun _ => True) u s) (hk : s.kind = 1) : Calls Tryz.prog 31 #[stV u s] w (BoolP (mayS s) w) := by
 obtain ⟨kd, tb, its, rws, sts, ft, cd, od, dn, lm⟩ := s;obtain ⟨ui, ur, us, uc⟩ := u;obtain ⟨Ai, ci, q1, i1, i2⟩ := LsR.form (show LsR itCs 7 itOk _ _ ui its from h.1);subst q1;obtain ⟨Ar, cr, q1, i3, i4⟩ := LsR.form (show LsR rwCs 1 rwOk _ _ ur rws from h.2.1);subst q1;obtain ⟨As, cs_, q1, i5, i6⟩ := LsR.form (show LsR asCs 7 asOk _ _ us sts from h.2.2.1);subst q1;obtain ⟨Ac, cc, q1, -⟩ := (show ExR _ _ uc cd from h.2.2.2).toL.form;subst q1;unfold maxLen at i2 i4 i6;show Calls Tryz.prog 31 #[.agg #[.int .i64 kd, .string (str tb), .slice Ai its.length ci, .slice Ar rws.length cr, .slice As sts.length cs_, .bool ft, .int .i64 cd.kind, .string (str cd.s), .int .i64 cd.v.kind, .int .i64 cd.v.n, .string (str cd.v.s), .slice Ac cd.args.length cc, .string (str od), .bool dn, .int .i64 lm]] w (BoolP (mayS ⟨kd, tb, its, rws, sts, ft, cd, od, dn, lm⟩) w);have hA := (Same.refl (fun _ => True) w).alloc (.cells #[.int .i64 kd, .string (str tb), .slice Ai its.length ci, .slice Ar rws.length cr, .slice As sts.length cs_, .bool ft, .int .i64 cd.kind, .string (str cd.s), .int .i64 cd.v.kind, .int .i64 cd.v.n, .string (str cd.v.s), .slice Ac cd.args.length cc, .string (str od), .bool dn, .int .i64 lm] 44);have hrow := Row.new w 44 [.int .i64 kd, .string (str tb), .slice Ai its.length ci, .slice Ar rws.length cr, .slice As sts.length cs_, .bool ft, .int .i64 cd.kind, .string (str cd.s), .int .i64 cd.v.kind, .int .i64 cd.v.n, .string (str cd.v.s), .slice Ac cd.args.length cc, .string (str od), .bool dn, .int .i64 lm];have hok := stK.keep h hA;have HIT := LH (show LsR itCs 7 itOk _ _ _ its from hok.1);have HRW := LH (show LsR rwCs 1 rwOk _ _ _ rws from hok.2.1);have HAS := LH (show LsR asCs 7 asOk _ _ _ sts from hok.2.2.1);have HCO := LH (show ExR _ _ _ cd from hok.2.2.2);obtain ⟨X, hX⟩ : ∃ X, X = mayS ⟨kd, tb, its, rws, sts, ft, cd, od, dn, lm⟩ := ⟨_, rfl⟩;rw [← hX];dsimp only at hk;subst hk;rw [mayS_k1 tb its rws sts ft cd od dn lm] at hX;have HX := LH hX;clear hX;clear h hok;go_enter Tryz.func31, Tryz.ntmps31;go_upto_region 1 with (fail);revert hA hrow HIT HRW HAS HCO;generalize w.alloc _ = w1;intro hA hrow HIT HRW HAS HCO;have HS := LH hA;have HROW := LH hrow;clear hA hrow;generalize w.heap.size = g at *;have c0 := HROW.out.cell 0;have c1 := HROW.out.cell 1;have c2 := HROW.out.cell 2;have c3 := HROW.out.cell 3;have c4 := HROW.out.cell 4;have c5 := HROW.out.cell 5;have c6 := HROW.out.cell 6;have c7 := HROW.out.cell 7;have c8 := HROW.out.cell 8;have c9 := HROW.out.cell 9;have c10 := HROW.out.cell 10;have c11 := HROW.out.cell 11;have c12 := HROW.out.cell 12;have c13 := HROW.out.cell 13;have c14 := HROW.out.cell 14;simp only [LG] at c0 c1 c2 c3 c4 c5 c6 c7 c8 c9 c10 c11 c12 c13 c14;go_cut [30] from 6 to 181 (fun v wx => ∃ (W : World) (b : Bool), W = wx ∧ v = .bool b ∧ Hid (b = !(wordF tb && (if ft then mayE cd 16 else blankE cd))) ∧ Same (fun _ => True) w1 W)
 case first =>
  clear HX;go_wp2_with (go_at_call 63; refine stopAt ?_);unfold Hid;refine (refword_all tb w1).mono ?_;rintro e w2 ⟨rfl, hS⟩;have HSx := LH hS;have HCO := LH (HCO.out.keepAll hS);have HROW := LH (HROW.out.keep hS tv);clear c0 c1 c2 c3 c4 c5 c6 c7 c8 c9 c10 c11 c12 c13 c14;clear hS;have c0 := HROW.out.cell 0;have c1 := HROW.out.cell 1;have c2 := HROW.out.cell 2;have c3 := HROW.out.cell 3;have c4 := HROW.out.cell 4;have c5 := HROW.out.cell 5;have c6 := HROW.out.cell 6;have c7 := HROW.out.cell 7;have c8 := HROW.out.cell 8;have c9 := HROW.out.cell 9;have c10 := HROW.out.cell 10;have c11 := HROW.out.cell 11;have c12 := HROW.out.cell 12;have c13 := HROW.out.cell 13;have c14 := HROW.out.cell 14;simp only [LG] at c0 c1 c2 c3 c4 c5 c6 c7 c8 c9 c10 c11 c12 c13 c14;cases hw : wordF tb
  ·have HB : Hid (true = !(wordF tb && (if ft then mayE cd 16 else blankE cd))) := LH (by rw [hw]; rfl);clear hw;go_wp2;go_meet;exact ⟨_, true, rfl, rfl, HB, HSx.out⟩
  ·cases ft
   ·go_wp2_with (go_at_call 65; refine stopAt ?_);unfold Hid;refine (show Calls _ _ _ _ _ from refzero_any cd _ _ HCO.out).mono ?_;rintro e w3 ⟨rfl, hS⟩;have HSx := LH (HSx.out.trans hS);have HB : Hid ((!(blankE cd)) = !(wordF tb && (if false then mayE cd 16 else blankE cd))) := LH (by rw [hw]; simp);clear hS hw;go_wp2;go_meet;exact ⟨_, _, rfl, rfl, HB, HSx.out⟩
   ·go_wp2_with (go_at_call 64; refine stopAt ?_);unfold Hid;refine (show Calls _ _ _ _ _ from refmay_any cd _ _ HCO.out).mono ?_;rintro e w3 ⟨rfl, hS⟩;have HSx := LH (HSx.out.trans hS);have HROW := LH (HROW.out.keep hS tv);have c5 := HROW.out.cell 5;simp only [LG] at c5;clear hS;cases hz : mayE cd 16
    ·have HB : Hid (true = !(wordF tb && (if true then mayE cd 16 else blankE cd))) := LH (by rw [hw, hz]; simp);clear hw hz;go_wp2;go_meet;exact ⟨_, true, rfl, rfl, HB, HSx.out⟩
    ·have HB : Hid (false = !(wordF tb && (if true then mayE cd 16 else blankE cd))) := LH (by rw [hw, hz]; simp);clear hw hz;go_wp2;go_meet;exact ⟨_, false, rfl, rfl, HB, HSx.out⟩
 case rest =>
 obtain ⟨w2, b, rfl, rfl, HB, hS⟩ := hcut;have HS := LH (HS.out.trans hS);have HROW := LH (HROW.out.keep hS tv);have HIT := LH (HIT.out.keepAll itK hS);have HRW := LH (HRW.out.keepAll rwK hS);have HAS := LH (HAS.out.keepAll asK hS);have HCO := LH (HCO.out.keepAll hS);clear c0 c1 c2 c3 c4 c5 c6 c7 c8 c9 c10 c11 c12 c13 c14;clear hS;have c0 := HROW.out.cell 0;have c1 := HROW.out.cell 1;have c2 := HROW.out.cell 2;have c3 := HROW.out.cell 3;have c4 := HROW.out.cell 4;have c5 := HROW.out.cell 5;have c6 := HROW.out.cell 6;have c7 := HROW.out.cell 7;have c8 := HROW.out.cell 8;have c9 := HROW.out.cell 9;have c10 := HROW.out.cell 10;have c11 := HROW.out.cell 11;have c12 := HROW.out.cell 12;have c13 := HROW.out.cell 13;have c14 := HROW.out.cell 14;simp only [LG] at c0 c1 c2 c3 c4 c5 c6 c7 c8 c9 c10 c11 c12 c13 c14;cases b
 case true =>
  have HB : Hid (false = X) := LH (by
   rw [HX.out, eq_of_nt HB.out, Bool.false_and])
  go_wp2;go_ret;exact ⟨ret_bool HB.out, HS.out⟩
 case false =>
 have HX : Hid (X = (decide (rws.length = 0) && (decide (sts.length = 0) && selB ⟨1, tb, its, rws, sts, ft, cd, od, dn, lm⟩))) := LH (by
  rw [HX.out, eq_of_nf HB.out, Bool.true_and])
 clear HB;by_cases b1 : 0 < rws.length
 ·have hn : ¬ rws = [] := fun h => by rw [h] at b1; simp at b1
  have HB : Hid (false = X) := LH (by rw [HX.out, decide_eq_false (show ¬ rws.length = 0 by omega)]; rfl);go_wp2;go_ret;exact ⟨ret_bool HB.out, HS.out⟩
 have hn : rws = [] := List.eq_nil_of_length_eq_zero (by omega);clear b1;subst hn;have hX := HX.out;rw [decide_eq_true (show ([] : List (List Ex)).length = 0 from rfl), Bool.true_and] at hX;have HX := LH hX;clear hX;by_cases b1 : 0 < sts.length
 ·have hn : ¬ sts = [] := fun h => by rw [h] at b1; simp at b1
  have HB : Hid (false = X) := LH (by rw [HX.out, decide_eq_false (show ¬ sts.length = 0 by omega)]; rfl);go_wp2;go_ret;exact ⟨ret_bool HB.out, HS.out⟩
 have hn : sts = [] := List.eq_nil_of_length_eq_zero (by omega);clear b1;subst hn;have hX := HX.out;rw [decide_eq_true (show ([] : List Asn).length = 0 from rfl), Bool.true_and] at hX;have HX := LH hX;clear hX;go_wp2_with (go_at_call 66; refine stopAt ?_);unfold Hid;refine (show Calls _ _ _ _ _ from refmaysel_any ⟨1, tb, its, [], [], ft, cd, od, dn, lm⟩ ⟨.slice Ai its.length ci, .slice Ar 0 cr, .slice As 0 cs_, .slice Ac cd.args.length cc⟩ w2 ⟨HIT.out, HRW.out, HAS.out, HCO.out⟩).mono ?_;rintro e w3 ⟨rfl, hS⟩;have HS := LH (HS.out.trans hS);have HB := LH HX.out.symm;clear hS;go_wp2;go_ret;exact ⟨ret_bool HB.out, HS.out⟩
set_option maxRecDepth 100000 in
set_option maxHeartbeats 16000000 in
theorem refmays_4 (s : Stm) (u : SU) (w : World) (h : StR w (fun _ => True) u s) (k1 : ¬ s.kind = 1) (k2 : ¬ s.kind = 2) (k3 : ¬ s.kind = 3) : Calls Tryz.prog 31 #[stV u s] w (BoolP (mayS s) w) := by
 obtain ⟨kd, tb, its, rws, sts, ft, cd, od, dn, lm⟩ := s;obtain ⟨ui, ur, us, uc⟩ := u;obtain ⟨Ai, ci, q1, i1, i2⟩ := LsR.form (show LsR itCs 7 itOk _ _ ui its from h.1);subst q1;obtain ⟨Ar, cr, q1, i3, i4⟩ := LsR.form (show LsR rwCs 1 rwOk _ _ ur rws from h.2.1);subst q1;obtain ⟨As, cs_, q1, i5, i6⟩ := LsR.form (show LsR asCs 7 asOk _ _ us sts from h.2.2.1);subst q1;obtain ⟨Ac, cc, q1, -⟩ := (show ExR _ _ uc cd from h.2.2.2).toL.form;subst q1;unfold maxLen at i2 i4 i6;show Calls Tryz.prog 31 #[.agg #[.int .i64 kd, .string (str tb), .slice Ai its.length ci, .slice Ar rws.length cr, .slice As sts.length cs_, .bool ft, .int .i64 cd.kind, .string (str cd.s), .int .i64 cd.v.kind, .int .i64 cd.v.n, .string (str cd.v.s), .slice Ac cd.args.length cc, .string (str od), .bool dn, .int .i64 lm]] w (BoolP (mayS ⟨kd, tb, its, rws, sts, ft, cd, od, dn, lm⟩) w);have hA := (Same.refl (fun _ => True) w).alloc (.cells #[.int .i64 kd, .string (str tb), .slice Ai its.length ci, .slice Ar rws.length cr, .slice As sts.length cs_, .bool ft, .int .i64 cd.kind, .string (str cd.s), .int .i64 cd.v.kind, .int .i64 cd.v.n, .string (str cd.v.s), .slice Ac cd.args.length cc, .string (str od), .bool dn, .int .i64 lm] 44);have hrow := Row.new w 44 [.int .i64 kd, .string (str tb), .slice Ai its.length ci, .slice Ar rws.length cr, .slice As sts.length cs_, .bool ft, .int .i64 cd.kind, .string (str cd.s), .int .i64 cd.v.kind, .int .i64 cd.v.n, .string (str cd.v.s), .slice Ac cd.args.length cc, .string (str od), .bool dn, .int .i64 lm];have hok := stK.keep h hA;have HIT := LH (show LsR itCs 7 itOk _ _ _ its from hok.1);have HRW := LH (show LsR rwCs 1 rwOk _ _ _ rws from hok.2.1);have HAS := LH (show LsR asCs 7 asOk _ _ _ sts from hok.2.2.1);have HCO := LH (show ExR _ _ _ cd from hok.2.2.2);obtain ⟨X, hX⟩ : ∃ X, X = mayS ⟨kd, tb, its, rws, sts, ft, cd, od, dn, lm⟩ := ⟨_, rfl⟩;rw [← hX];dsimp only at k1 k2 k3;rw [mayS_k4 kd tb its rws sts ft cd od dn lm k1 k2 k3] at hX;have e7 := ne_t k1;have e8 := ne_t k2;have e9 := ne_t k3;have e10 := int_eq_f k1;have e11 := int_eq_f k2;have e12 := int_eq_f k3;clear k1 k2 k3;have HX := LH hX;clear hX;clear h hok;go_enter Tryz.func31, Tryz.ntmps31;go_upto_region 1 with (fail);revert hA hrow HIT HRW HAS HCO;generalize w.alloc _ = w1;intro hA hrow HIT HRW HAS HCO;have HS := LH hA;have HROW := LH hrow;clear hA hrow;generalize w.heap.size = g at *;have c0 := HROW.out.cell 0;have c1 := HROW.out.cell 1;have c2 := HROW.out.cell 2;have c3 := HROW.out.cell 3;have c4 := HROW.out.cell 4;have c5 := HROW.out.cell 5;have c6 := HROW.out.cell 6;have c7 := HROW.out.cell 7;have c8 := HROW.out.cell 8;have c9 := HROW.out.cell 9;have c10 := HROW.out.cell 10;have c11 := HROW.out.cell 11;have c12 := HROW.out.cell 12;have c13 := HROW.out.cell 13;have c14 := HROW.out.cell 14;simp only [LG] at c0 c1 c2 c3 c4 c5 c6 c7 c8 c9 c10 c11 c12 c13 c14;go_cut [30] from 6 to 181 (fun v wx => ∃ (W : World) (b : Bool), W = wx ∧ v = .bool b ∧ Hid (b = !(wordF tb && (if ft then mayE cd 16 else blankE cd))) ∧ Same (fun _ => True) w1 W)
 case first =>
  clear HX;go_wp2_with (go_at_call 63; refine stopAt ?_);unfold Hid;refine (refword_all tb w1).mono ?_;rintro e w2 ⟨rfl, hS⟩;have HSx := LH hS;have HCO := LH (HCO.out.keepAll hS);have HROW := LH (HROW.out.keep hS tv);clear c0 c1 c2 c3 c4 c5 c6 c7 c8 c9 c10 c11 c12 c13 c14;clear hS;have c0 := HROW.out.cell 0;have c1 := HROW.out.cell 1;have c2 := HROW.out.cell 2;have c3 := HROW.out.cell 3;have c4 := HROW.out.cell 4;have c5 := HROW.out.cell 5;have c6 := HROW.out.cell 6;have c7 := HROW.out.cell 7;have c8 := HROW.out.cell 8;have c9 := HROW.out.cell 9;have c10 := HROW.out.cell 10;have c11 := HROW.out.cell 11;have c12 := HROW.out.cell 12;have c13 := HROW.out.cell 13;have c14 := HROW.out.cell 14;simp only [LG] at c0 c1 c2 c3 c4 c5 c6 c7 c8 c9 c10 c11 c12 c13 c14;cases hw : wordF tb
  ·have HB : Hid (true = !(wordF tb && (if ft then mayE cd 16 else blankE cd))) := LH (by rw [hw]; rfl);clear hw;go_wp2;go_meet;exact ⟨_, true, rfl, rfl, HB, HSx.out⟩
  ·cases ft
   ·go_wp2_with (go_at_call 65; refine stopAt ?_);unfold Hid;refine (show Calls _ _ _ _ _ from refzero_any cd _ _ HCO.out).mono ?_;rintro e w3 ⟨rfl, hS⟩;have HSx := LH (HSx.out.trans hS);have HB : Hid ((!(blankE cd)) = !(wordF tb && (if false then mayE cd 16 else blankE cd))) := LH (by rw [hw]; simp);clear hS hw;go_wp2;go_meet;exact ⟨_, _, rfl, rfl, HB, HSx.out⟩
   ·go_wp2_with (go_at_call 64; refine stopAt ?_);unfold Hid;refine (show Calls _ _ _ _ _ from refmay_any cd _ _ HCO.out).mono ?_;rintro e w3 ⟨rfl, hS⟩;have HSx := LH (HSx.out.trans hS);have HROW := LH (HROW.out.keep hS tv);have c5 := HROW.out.cell 5;simp only [LG] at c5;clear hS;cases hz : mayE cd 16
    ·have HB : Hid (true = !(wordF tb && (if true then mayE cd 16 else blankE cd))) := LH (by rw [hw, hz]; simp);clear hw hz;go_wp2;go_meet;exact ⟨_, true, rfl, rfl, HB, HSx.out⟩
    ·have HB : Hid (false = !(wordF tb && (if true then mayE cd 16 else blankE cd))) := LH (by rw [hw, hz]; simp);clear hw hz;go_wp2;go_meet;exact ⟨_, false, rfl, rfl, HB, HSx.out⟩
 case rest =>
 obtain ⟨w2, b, rfl, rfl, HB, hS⟩ := hcut;have HS := LH (HS.out.trans hS);have HROW := LH (HROW.out.keep hS tv);have HIT := LH (HIT.out.keepAll itK hS);have HRW := LH (HRW.out.keepAll rwK hS);have HAS := LH (HAS.out.keepAll asK hS);have HCO := LH (HCO.out.keepAll hS);clear c0 c1 c2 c3 c4 c5 c6 c7 c8 c9 c10 c11 c12 c13 c14;clear hS;have c0 := HROW.out.cell 0;have c1 := HROW.out.cell 1;have c2 := HROW.out.cell 2;have c3 := HROW.out.cell 3;have c4 := HROW.out.cell 4;have c5 := HROW.out.cell 5;have c6 := HROW.out.cell 6;have c7 := HROW.out.cell 7;have c8 := HROW.out.cell 8;have c9 := HROW.out.cell 9;have c10 := HROW.out.cell 10;have c11 := HROW.out.cell 11;have c12 := HROW.out.cell 12;have c13 := HROW.out.cell 13;have c14 := HROW.out.cell 14;simp only [LG] at c0 c1 c2 c3 c4 c5 c6 c7 c8 c9 c10 c11 c12 c13 c14;cases b
 case true =>
  have HB : Hid (false = X) := LH (by
   rw [HX.out, eq_of_nt HB.out, Bool.false_and])
  go_wp2;go_ret;exact ⟨ret_bool HB.out, HS.out⟩
 case false =>
 have HX : Hid (X = (decide (its.length = 0) && (decide (od = []) && (!dn && (decide (lm = 0) && (decide (rws.length = 0) && (decide (sts.length = 0) && decide (kd = 4)))))))) := LH (by
  rw [HX.out, eq_of_nf HB.out, Bool.true_and])
 clear HB;by_cases b1 : 0 < its.length
 ·have hn : ¬ its = [] := fun h => by rw [h] at b1; simp at b1
  have HB : Hid (false = X) := LH (by rw [HX.out, decide_eq_false (show ¬ its.length = 0 by omega)]; rfl);go_wp2;go_ret;exact ⟨ret_bool HB.out, HS.out⟩
 have hn : its = [] := List.eq_nil_of_length_eq_zero (by omega);clear b1;subst hn;have hX := HX.out;rw [decide_eq_true (show ([] : List Itm).length = 0 from rfl), Bool.true_and] at hX;have HX := LH hX;clear hX;by_cases b1 : od = []
 case neg =>
  have e2 := str_ne_t b1;have HB : Hid (false = X) := LH (by rw [HX.out, decide_eq_false b1]; rfl);go_wp2;go_ret;exact ⟨ret_bool HB.out, HS.out⟩
 case pos =>
 subst b1;have hX := HX.out;rw [decide_eq_true (show ([] : List UInt8) = [] from rfl), Bool.true_and] at hX;have HX := LH hX;clear hX;cases dn
 case true =>
  have HB : Hid (false = X) := LH (by rw [HX.out]; rfl);go_wp2;go_ret;exact ⟨ret_bool HB.out, HS.out⟩
 have hX : X = _ := HX.out;rw [Bool.not_false, Bool.true_and] at hX;have HX := LH hX;clear hX;by_cases b1 : lm = 0
 case neg =>
  have e4 := ne_t b1;have HB : Hid (false = X) := LH (by rw [HX.out, decide_eq_false b1]; rfl);go_wp2;go_ret;exact ⟨ret_bool HB.out, HS.out⟩
 case pos =>
 subst b1;have hX := HX.out;rw [decide_eq_true (show (0 : Int) = 0 from rfl), Bool.true_and] at hX;have HX := LH hX;clear hX;by_cases b1 : 0 < rws.length
 ·have hn : ¬ rws = [] := fun h => by rw [h] at b1; simp at b1
  have HB : Hid (false = X) := LH (by rw [HX.out, decide_eq_false (show ¬ rws.length = 0 by omega)]; rfl);go_wp2;go_ret;exact ⟨ret_bool HB.out, HS.out⟩
 have hn : rws = [] := List.eq_nil_of_length_eq_zero (by omega);clear b1;subst hn;have hX := HX.out;rw [decide_eq_true (show ([] : List (List Ex)).length = 0 from rfl), Bool.true_and] at hX;have HX := LH hX;clear hX;by_cases b1 : 0 < sts.length
 ·have hn : ¬ sts = [] := fun h => by rw [h] at b1; simp at b1
  have HB : Hid (false = X) := LH (by rw [HX.out, decide_eq_false (show ¬ sts.length = 0 by omega)]; rfl);go_wp2;go_ret;exact ⟨ret_bool HB.out, HS.out⟩
 have hn : sts = [] := List.eq_nil_of_length_eq_zero (by omega);clear b1;subst hn;have hX := HX.out;rw [decide_eq_true (show ([] : List Asn).length = 0 from rfl), Bool.true_and] at hX;have HX := LH hX;clear hX;by_cases k4 : kd = 4
 ·have e13 := int_eq_t k4;have HB : Hid (true = X) := LH (by rw [HX.out, decide_eq_true k4]);clear k4;go_wp2;go_ret;exact ⟨ret_bool HB.out, HS.out⟩
 ·have e13 := int_eq_f k4;have HB : Hid (false = X) := LH (by rw [HX.out, decide_eq_false k4]);clear k4;go_wp2;go_ret;exact ⟨ret_bool HB.out, HS.out⟩
set_option maxRecDepth 100000 in
set_option maxHeartbeats 16000000 in
theorem refmays_2 (s : Stm) (u : SU) (w : World) (h : StR w (fun _ => True) u s) (hk : s.kind = 2) : Calls Tryz.prog 31 #[stV u s] w (BoolP (mayS s) w) := by
 obtain ⟨kd, tb, its, rws, sts, ft, cd, od, dn, lm⟩ := s;obtain ⟨ui, ur, us, uc⟩ := u;obtain ⟨Ai, ci, q1, i1, i2⟩ := LsR.form (show LsR itCs 7 itOk _ _ ui its from h.1);subst q1;obtain ⟨Ar, cr, q1, i3, i4⟩ := LsR.form (show LsR rwCs 1 rwOk _ _ ur rws from h.2.1);subst q1;obtain ⟨As, cs_, q1, i5, i6⟩ := LsR.form (show LsR asCs 7 asOk _ _ us sts from h.2.2.1);subst q1;obtain ⟨Ac, cc, q1, -⟩ := (show ExR _ _ uc cd from h.2.2.2).toL.form;subst q1;unfold maxLen at i2 i4 i6;show Calls Tryz.prog 31 #[.agg #[.int .i64 kd, .string (str tb), .slice Ai its.length ci, .slice Ar rws.length cr, .slice As sts.length cs_, .bool ft, .int .i64 cd.kind, .string (str cd.s), .int .i64 cd.v.kind, .int .i64 cd.v.n, .string (str cd.v.s), .slice Ac cd.args.length cc, .string (str od), .bool dn, .int .i64 lm]] w (BoolP (mayS ⟨kd, tb, its, rws, sts, ft, cd, od, dn, lm⟩) w);have hA := (Same.refl (fun _ => True) w).alloc (.cells #[.int .i64 kd, .string (str tb), .slice Ai its.length ci, .slice Ar rws.length cr, .slice As sts.length cs_, .bool ft, .int .i64 cd.kind, .string (str cd.s), .int .i64 cd.v.kind, .int .i64 cd.v.n, .string (str cd.v.s), .slice Ac cd.args.length cc, .string (str od), .bool dn, .int .i64 lm] 44);have hrow := Row.new w 44 [.int .i64 kd, .string (str tb), .slice Ai its.length ci, .slice Ar rws.length cr, .slice As sts.length cs_, .bool ft, .int .i64 cd.kind, .string (str cd.s), .int .i64 cd.v.kind, .int .i64 cd.v.n, .string (str cd.v.s), .slice Ac cd.args.length cc, .string (str od), .bool dn, .int .i64 lm];have hok := stK.keep h hA;have HIT := LH (show LsR itCs 7 itOk _ _ _ its from hok.1);have HRW := LH (show LsR rwCs 1 rwOk _ _ _ rws from hok.2.1);have HAS := LH (show LsR asCs 7 asOk _ _ _ sts from hok.2.2.1);have HCO := LH (show ExR _ _ _ cd from hok.2.2.2);obtain ⟨X, hX⟩ : ∃ X, X = mayS ⟨kd, tb, its, rws, sts, ft, cd, od, dn, lm⟩ := ⟨_, rfl⟩;rw [← hX];dsimp only at hk;subst hk;rw [mayS_k2 tb its rws sts ft cd od dn lm] at hX;have HX := LH hX;clear hX;clear h hok;go_enter Tryz.func31, Tryz.ntmps31;go_upto_region 1 with (fail);revert hA hrow HIT HRW HAS HCO;generalize w.alloc _ = w1;intro hA hrow HIT HRW HAS HCO;have HS := LH hA;have HROW := LH hrow;clear hA hrow;generalize w.heap.size = g at *;have c0 := HROW.out.cell 0;have c1 := HROW.out.cell 1;have c2 := HROW.out.cell 2;have c3 := HROW.out.cell 3;have c4 := HROW.out.cell 4;have c5 := HROW.out.cell 5;have c6 := HROW.out.cell 6;have c7 := HROW.out.cell 7;have c8 := HROW.out.cell 8;have c9 := HROW.out.cell 9;have c10 := HROW.out.cell 10;have c11 := HROW.out.cell 11;have c12 := HROW.out.cell 12;have c13 := HROW.out.cell 13;have c14 := HROW.out.cell 14;simp only [LG] at c0 c1 c2 c3 c4 c5 c6 c7 c8 c9 c10 c11 c12 c13 c14;go_cut [30] from 6 to 181 (fun v wx => ∃ (W : World) (b : Bool), W = wx ∧ v = .bool b ∧ Hid (b = !(wordF tb && (if ft then mayE cd 16 else blankE cd))) ∧ Same (fun _ => True) w1 W)
 case first =>
  clear HX;go_wp2_with (go_at_call 63; refine stopAt ?_);unfold Hid;refine (refword_all tb w1).mono ?_;rintro e w2 ⟨rfl, hS⟩;have HSx := LH hS;have HCO := LH (HCO.out.keepAll hS);have HROW := LH (HROW.out.keep hS tv);clear c0 c1 c2 c3 c4 c5 c6 c7 c8 c9 c10 c11 c12 c13 c14;clear hS;have c0 := HROW.out.cell 0;have c1 := HROW.out.cell 1;have c2 := HROW.out.cell 2;have c3 := HROW.out.cell 3;have c4 := HROW.out.cell 4;have c5 := HROW.out.cell 5;have c6 := HROW.out.cell 6;have c7 := HROW.out.cell 7;have c8 := HROW.out.cell 8;have c9 := HROW.out.cell 9;have c10 := HROW.out.cell 10;have c11 := HROW.out.cell 11;have c12 := HROW.out.cell 12;have c13 := HROW.out.cell 13;have c14 := HROW.out.cell 14;simp only [LG] at c0 c1 c2 c3 c4 c5 c6 c7 c8 c9 c10 c11 c12 c13 c14;cases hw : wordF tb
  ·have HB : Hid (true = !(wordF tb && (if ft then mayE cd 16 else blankE cd))) := LH (by rw [hw]; rfl);clear hw;go_wp2;go_meet;exact ⟨_, true, rfl, rfl, HB, HSx.out⟩
  ·cases ft
   ·go_wp2_with (go_at_call 65; refine stopAt ?_);unfold Hid;refine (show Calls _ _ _ _ _ from refzero_any cd _ _ HCO.out).mono ?_;rintro e w3 ⟨rfl, hS⟩;have HSx := LH (HSx.out.trans hS);have HB : Hid ((!(blankE cd)) = !(wordF tb && (if false then mayE cd 16 else blankE cd))) := LH (by rw [hw]; simp);clear hS hw;go_wp2;go_meet;exact ⟨_, _, rfl, rfl, HB, HSx.out⟩
   ·go_wp2_with (go_at_call 64; refine stopAt ?_);unfold Hid;refine (show Calls _ _ _ _ _ from refmay_any cd _ _ HCO.out).mono ?_;rintro e w3 ⟨rfl, hS⟩;have HSx := LH (HSx.out.trans hS);have HROW := LH (HROW.out.keep hS tv);have c5 := HROW.out.cell 5;simp only [LG] at c5;clear hS;cases hz : mayE cd 16
    ·have HB : Hid (true = !(wordF tb && (if true then mayE cd 16 else blankE cd))) := LH (by rw [hw, hz]; simp);clear hw hz;go_wp2;go_meet;exact ⟨_, true, rfl, rfl, HB, HSx.out⟩
    ·have HB : Hid (false = !(wordF tb && (if true then mayE cd 16 else blankE cd))) := LH (by rw [hw, hz]; simp);clear hw hz;go_wp2;go_meet;exact ⟨_, false, rfl, rfl, HB, HSx.out⟩
 case rest =>
 obtain ⟨w2, b, rfl, rfl, HB, hS⟩ := hcut;have HS := LH (HS.out.trans hS);have HROW := LH (HROW.out.keep hS tv);have HIT := LH (HIT.out.keepAll itK hS);have HRW := LH (HRW.out.keepAll rwK hS);have HAS := LH (HAS.out.keepAll asK hS);have HCO := LH (HCO.out.keepAll hS);clear c0 c1 c2 c3 c4 c5 c6 c7 c8 c9 c10 c11 c12 c13 c14;clear hS;have c0 := HROW.out.cell 0;have c1 := HROW.out.cell 1;have c2 := HROW.out.cell 2;have c3 := HROW.out.cell 3;have c4 := HROW.out.cell 4;have c5 := HROW.out.cell 5;have c6 := HROW.out.cell 6;have c7 := HROW.out.cell 7;have c8 := HROW.out.cell 8;have c9 := HROW.out.cell 9;have c10 := HROW.out.cell 10;have c11 := HROW.out.cell 11;have c12 := HROW.out.cell 12;have c13 := HROW.out.cell 13;have c14 := HROW.out.cell 14;simp only [LG] at c0 c1 c2 c3 c4 c5 c6 c7 c8 c9 c10 c11 c12 c13 c14;cases b
 case true =>
  have HB : Hid (false = X) := LH (by
   rw [HX.out, eq_of_nt HB.out, Bool.false_and])
  go_wp2;go_ret;exact ⟨ret_bool HB.out, HS.out⟩
 case false =>
 have HX : Hid (X = (decide (its.length = 0) && (decide (od = []) && (!dn && (decide (lm = 0) && (decide (sts.length = 0) && (rws.all mayRow && (decide (1 ≤ rws.length) && (decide (rws.length ≤ 16) && !ft))))))))) := LH (by
  rw [HX.out, eq_of_nf HB.out, Bool.true_and])
 clear HB;by_cases b1 : 0 < its.length
 ·have hn : ¬ its = [] := fun h => by rw [h] at b1; simp at b1
  have HB : Hid (false = X) := LH (by rw [HX.out, decide_eq_false (show ¬ its.length = 0 by omega)]; rfl);go_wp2;go_ret;exact ⟨ret_bool HB.out, HS.out⟩
 have hn : its = [] := List.eq_nil_of_length_eq_zero (by omega);clear b1;subst hn;have hX := HX.out;rw [decide_eq_true (show ([] : List Itm).length = 0 from rfl), Bool.true_and] at hX;have HX := LH hX;clear hX;by_cases b1 : od = []
 case neg =>
  have e2 := str_ne_t b1;have HB : Hid (false = X) := LH (by rw [HX.out, decide_eq_false b1]; rfl);go_wp2;go_ret;exact ⟨ret_bool HB.out, HS.out⟩
 case pos =>
 subst b1;have hX := HX.out;rw [decide_eq_true (show ([] : List UInt8) = [] from rfl), Bool.true_and] at hX;have HX := LH hX;clear hX;cases dn
 case true =>
  have HB : Hid (false = X) := LH (by rw [HX.out]; rfl);go_wp2;go_ret;exact ⟨ret_bool HB.out, HS.out⟩
 have hX : X = _ := HX.out;rw [Bool.not_false, Bool.true_and] at hX;have HX := LH hX;clear hX;by_cases b1 : lm = 0
 case neg =>
  have e4 := ne_t b1;have HB : Hid (false = X) := LH (by rw [HX.out, decide_eq_false b1]; rfl);go_wp2;go_ret;exact ⟨ret_bool HB.out, HS.out⟩
 case pos =>
 subst b1;have hX := HX.out;rw [decide_eq_true (show (0 : Int) = 0 from rfl), Bool.true_and] at hX;have HX := LH hX;clear hX;by_cases b1 : 0 < sts.length
 ·have hn : ¬ sts = [] := fun h => by rw [h] at b1; simp at b1
  have HB : Hid (false = X) := LH (by rw [HX.out, decide_eq_false (show ¬ sts.length = 0 by omega)]; rfl);go_wp2;go_ret;exact ⟨ret_bool HB.out, HS.out⟩
 have hn : sts = [] := List.eq_nil_of_length_eq_zero (by omega);clear b1;subst hn;have hX := HX.out;rw [decide_eq_true (show ([] : List Asn).length = 0 from rfl), Bool.true_and] at hX;have HX := LH hX;clear hX;go_wp2;go_loopw [3] (fun i wr => ∃ q : Nat, i = .int .i64 (q : Int) ∧ q ≤ rws.length ∧ X = ((rws.drop q).all mayRow && (decide (1 ≤ rws.length) && (decide (rws.length ≤ 16) && !ft))) ∧ Same (fun _ => True) w2 wr) (fun i _ => rws.length - (intOf i).toNat)
 case atStart => exact ⟨0, rfl, Nat.zero_le _, HX.out, Same.refl _ _⟩
 case round =>
  obtain ⟨q, rfl, hq, hx, hS⟩ := hrel;have x1 : (0 : Int) ≤ (q : Int) := by omega
  have HS2 := LH hS;have HRW2 := LH (HRW.out.keepAll rwK hS);have HROW2 := LH (HROW.out.keep hS tv);clear hS c3 c5;have c3 := HROW2.out.cell 3;have c5 := HROW2.out.cell 5;simp only [LG] at c3 c5;by_cases hql : q < rws.length
  ·have x2 : (q : Int) < (rws.length : Int) := by omega
   obtain ⟨ad, uq, rfl, hok, hcl⟩ := LsR.at_ HRW2.out rwCs_len hql;obtain ⟨A_r, c_r, rfl, r1, r2⟩ := (show ExL _ _ uq rws[q] from hok).form;unfold maxLen at r2;have d0 := hcl 0 (by omega);rw [add_zero, Nat.mul_one] at d0;simp only [rwCs, LG] at d0;have HR := LH (ls_exL.2 (show ExL _ _ _ rws[q] from hok));have hd : rws.drop q = rws[q] :: rws.drop (q + 1) := List.drop_eq_getElem_cons hql;rw [hd, List.all_cons, Bool.and_assoc] at hx;have HXq := LH hx;clear hx hd hok hcl;generalize rws[q] = r at *;by_cases h1 : (r.length : Int) < 1
   ·have e6 := decide_eq_true h1;have HB : Hid (false = X) := LH (by rw [HXq.out]; unfold mayRow; rw [decide_eq_false (show ¬ 1 ≤ r.length by omega)]; rfl);clear h1;go_wp2;go_ret;exact ⟨ret_bool HB.out, HS.out.trans HS2.out⟩
   have e6 : decide ((r.length : Int) < 1) = false := decide_eq_false h1;by_cases h6 : (6 : Int) < (r.length : Int)
   ·have e7 := decide_eq_true h6;have HB : Hid (false = X) := LH (by rw [HXq.out]; unfold mayRow; rw [decide_eq_false (show ¬ r.length ≤ 6 by omega)]; simp);clear h1 h6;go_wp2;go_ret;exact ⟨ret_bool HB.out, HS.out.trans HS2.out⟩
   have e7 : decide ((6 : Int) < (r.length : Int)) = false := decide_eq_false h6;have HX3 : Hid (X = ((r.all fun e => mayE e 16) && ((rws.drop (q + 1)).all mayRow && (decide (1 ≤ rws.length) && (decide (rws.length ≤ 16) && !ft))))) := LH (by rw [HXq.out]; unfold mayRow; rw [decide_eq_true (show 1 ≤ r.length by omega), decide_eq_true (show r.length ≤ 6 by omega)]; rfl);clear h1 h6 HXq;go_wp2;go_loopw [4] (fun i w5 => ∃ p : Nat, i = .int .i64 (p : Int) ∧ p ≤ r.length ∧ X = (((r.drop p).all fun e => mayE e 16) && ((rws.drop (q + 1)).all mayRow && (decide (1 ≤ rws.length) && (decide (rws.length ≤ 16) && !ft)))) ∧ Same (fun _ => True) wr w5) (fun i _ => r.length - (intOf i).toNat)
   case atStart => exact ⟨0, rfl, Nat.zero_le _, HX3.out, Same.refl _ _⟩
   case round =>
    rename World => w5
    obtain ⟨p, rfl, hp, hx, hS⟩ := hrel;have xp : (0 : Int) ≤ (p : Int) := by omega
    have HS5 := LH hS;have HR5 := LH (HR.out.keepAll exK hS);have HROW5 := LH (HROW2.out.keep hS tv);have k0 := hS.cell (p := ad.add q) tv d0;clear hS d0 c3 c5;have c3 := HROW5.out.cell 3;simp only [LG] at c3;by_cases hpl : p < r.length
    ·have yp : (p : Int) < (r.length : Int) := by omega
     obtain ⟨adp, up, rfl, hok, hcl⟩ := LsR.at_ HR5.out exCsP_len hpl;obtain ⟨A_u, c_u, rfl, -, -⟩ := (show ExR _ _ up r[p] from hok).toL.form;have d0 := hcl 0 (by omega);rw [add_zero] at d0;have d1 := hcl 1 (by omega);rw [addr_add _ _ (by omega)] at d1;have d2 := hcl 2 (by omega);rw [addr_add _ _ (by omega)] at d2;have d3 := hcl 3 (by omega);rw [addr_add _ _ (by omega)] at d3;have d4 := hcl 4 (by omega);rw [addr_add _ _ (by omega)] at d4;have d5 := hcl 5 (by omega);rw [addr_add _ _ (by omega)] at d5;simp only [exCsP, exCs, LG] at d0 d1 d2 d3 d4 d5;have HEX := LH (show ExR _ _ _ r[p] from hok);have hd : r.drop p = r[p] :: r.drop (p + 1) := List.drop_eq_getElem_cons hpl;rw [hd, List.all_cons, Bool.and_assoc] at hx;have HXp := LH hx;clear hx hd hok hcl;generalize r[p] = y at *;go_wp2_with (go_at_call 64; refine stopAt ?_);unfold Hid;refine (show Calls _ _ _ _ _ from refmay_any y _ _ HEX.out).mono ?_;rintro e w7 ⟨rfl, hS⟩;have HS7 := LH (HS5.out.trans hS);clear hS;cases hb : mayE y 16
     ·have HB : Hid (false = X) := LH (by rw [HXp.out, hb]; rfl);clear hb;go_wp2;go_ret;exact ⟨ret_bool HB.out, HS.out.trans (HS2.out.trans HS7.out)⟩
     ·have HB : Hid (X = (((r.drop (p + 1)).all fun e => mayE e 16) && ((rws.drop (q + 1)).all mayRow && (decide (1 ≤ rws.length) && (decide (rws.length ≤ 16) && !ft))))) := LH (by rw [HXp.out, hb]; rfl);clear hb;go_wp2;go_roundw
      case rel => exact ⟨p + 1, by go_num, by omega, HB.out, HS7.out⟩
      case measure => simp [intOf]; omega
    ·obtain rfl : p = r.length := by omega
     rw [List.drop_length] at hx;have HB : Hid (X = ((rws.drop (q + 1)).all mayRow && (decide (1 ≤ rws.length) && (decide (rws.length ≤ 16) && !ft)))) := LH (by rw [hx]; rfl);have HS7 := LH (HS2.out.trans HS5.out);clear hx;go_wp2;go_roundw
     case rel => exact ⟨q + 1, by go_num, by omega, HB.out, HS7.out⟩
     case measure => simp [intOf]; omega
  ·obtain rfl : q = rws.length := by omega
   rw [List.drop_length] at hx;have HXe : Hid (X = (decide (1 ≤ rws.length) && (decide (rws.length ≤ 16) && !ft))) := LH (by rw [hx]; rfl);have HS := LH (HS.out.trans HS2.out);clear hx;cases ft
   case true =>
    have HB : Hid (false = X) := LH (by rw [HXe.out]; simp);go_wp2;go_ret;exact ⟨ret_bool HB.out, HS.out⟩
   case false =>
   by_cases h1 : 1 ≤ rws.length
   ·have e6 : decide ((1 : Int) ≤ (rws.length : Int)) = true := decide_eq_true (by omega);by_cases h6 : rws.length ≤ 16
    ·have e7 : decide ((rws.length : Int) ≤ 16) = true := decide_eq_true (by omega);have HB : Hid (true = X) := LH (by rw [HXe.out, decide_eq_true h1, decide_eq_true h6]; rfl);clear h1 h6;go_wp2;go_ret;exact ⟨ret_bool HB.out, HS.out⟩
    ·have e7 : decide ((rws.length : Int) ≤ 16) = false := decide_eq_false (by omega);have HB : Hid (false = X) := LH (by rw [HXe.out, decide_eq_false h6]; simp);clear h1 h6;go_wp2;go_ret;exact ⟨ret_bool HB.out, HS.out⟩
   ·have e6 : decide ((1 : Int) ≤ (rws.length : Int)) = false := decide_eq_false (by omega);have HB : Hid (false = X) := LH (by rw [HXe.out, decide_eq_false h1]; rfl);clear h1;go_wp2;go_ret;exact ⟨ret_bool HB.out, HS.out⟩
set_option maxRecDepth 100000 in
set_option maxHeartbeats 16000000 in
theorem refmays_3 (s : Stm) (u : SU) (w : World) (h : StR w (fun _ => True) u s) (hk : s.kind = 3) : Calls Tryz.prog 31 #[stV u s] w (BoolP (mayS s) w) := by
 obtain ⟨kd, tb, its, rws, sts, ft, cd, od, dn, lm⟩ := s;obtain ⟨ui, ur, us, uc⟩ := u;obtain ⟨Ai, ci, q1, i1, i2⟩ := LsR.form (show LsR itCs 7 itOk _ _ ui its from h.1);subst q1;obtain ⟨Ar, cr, q1, i3, i4⟩ := LsR.form (show LsR rwCs 1 rwOk _ _ ur rws from h.2.1);subst q1;obtain ⟨As, cs_, q1, i5, i6⟩ := LsR.form (show LsR asCs 7 asOk _ _ us sts from h.2.2.1);subst q1;obtain ⟨Ac, cc, q1, -⟩ := (show ExR _ _ uc cd from h.2.2.2).toL.form;subst q1;unfold maxLen at i2 i4 i6;show Calls Tryz.prog 31 #[.agg #[.int .i64 kd, .string (str tb), .slice Ai its.length ci, .slice Ar rws.length cr, .slice As sts.length cs_, .bool ft, .int .i64 cd.kind, .string (str cd.s), .int .i64 cd.v.kind, .int .i64 cd.v.n, .string (str cd.v.s), .slice Ac cd.args.length cc, .string (str od), .bool dn, .int .i64 lm]] w (BoolP (mayS ⟨kd, tb, its, rws, sts, ft, cd, od, dn, lm⟩) w);have hA := (Same.refl (fun _ => True) w).alloc (.cells #[.int .i64 kd, .string (str tb), .slice Ai its.length ci, .slice Ar rws.length cr, .slice As sts.length cs_, .bool ft, .int .i64 cd.kind, .string (str cd.s), .int .i64 cd.v.kind, .int .i64 cd.v.n, .string (str cd.v.s), .slice Ac cd.args.length cc, .string (str od), .bool dn, .int .i64 lm] 44);have hrow := Row.new w 44 [.int .i64 kd, .string (str tb), .slice Ai its.length ci, .slice Ar rws.length cr, .slice As sts.length cs_, .bool ft, .int .i64 cd.kind, .string (str cd.s), .int .i64 cd.v.kind, .int .i64 cd.v.n, .string (str cd.v.s), .slice Ac cd.args.length cc, .string (str od), .bool dn, .int .i64 lm];have hok := stK.keep h hA;have HIT := LH (show LsR itCs 7 itOk _ _ _ its from hok.1);have HRW := LH (show LsR rwCs 1 rwOk _ _ _ rws from hok.2.1);have HAS := LH (show LsR asCs 7 asOk _ _ _ sts from hok.2.2.1);have HCO := LH (show ExR _ _ _ cd from hok.2.2.2);obtain ⟨X, hX⟩ : ∃ X, X = mayS ⟨kd, tb, its, rws, sts, ft, cd, od, dn, lm⟩ := ⟨_, rfl⟩;rw [← hX];dsimp only at hk;subst hk;rw [mayS_k3 tb its rws sts ft cd od dn lm] at hX;have HX := LH hX;clear hX;clear h hok;go_enter Tryz.func31, Tryz.ntmps31;go_upto_region 1 with (fail);revert hA hrow HIT HRW HAS HCO;generalize w.alloc _ = w1;intro hA hrow HIT HRW HAS HCO;have HS := LH hA;have HROW := LH hrow;clear hA hrow;generalize w.heap.size = g at *;have c0 := HROW.out.cell 0;have c1 := HROW.out.cell 1;have c2 := HROW.out.cell 2;have c3 := HROW.out.cell 3;have c4 := HROW.out.cell 4;have c5 := HROW.out.cell 5;have c6 := HROW.out.cell 6;have c7 := HROW.out.cell 7;have c8 := HROW.out.cell 8;have c9 := HROW.out.cell 9;have c10 := HROW.out.cell 10;have c11 := HROW.out.cell 11;have c12 := HROW.out.cell 12;have c13 := HROW.out.cell 13;have c14 := HROW.out.cell 14;simp only [LG] at c0 c1 c2 c3 c4 c5 c6 c7 c8 c9 c10 c11 c12 c13 c14;go_cut [30] from 6 to 181 (fun v wx => ∃ (W : World) (b : Bool), W = wx ∧ v = .bool b ∧ Hid (b = !(wordF tb && (if ft then mayE cd 16 else blankE cd))) ∧ Same (fun _ => True) w1 W)
 case first =>
  clear HX;go_wp2_with (go_at_call 63; refine stopAt ?_);unfold Hid;refine (refword_all tb w1).mono ?_;rintro e w2 ⟨rfl, hS⟩;have HSx := LH hS;have HCO := LH (HCO.out.keepAll hS);have HROW := LH (HROW.out.keep hS tv);clear c0 c1 c2 c3 c4 c5 c6 c7 c8 c9 c10 c11 c12 c13 c14;clear hS;have c0 := HROW.out.cell 0;have c1 := HROW.out.cell 1;have c2 := HROW.out.cell 2;have c3 := HROW.out.cell 3;have c4 := HROW.out.cell 4;have c5 := HROW.out.cell 5;have c6 := HROW.out.cell 6;have c7 := HROW.out.cell 7;have c8 := HROW.out.cell 8;have c9 := HROW.out.cell 9;have c10 := HROW.out.cell 10;have c11 := HROW.out.cell 11;have c12 := HROW.out.cell 12;have c13 := HROW.out.cell 13;have c14 := HROW.out.cell 14;simp only [LG] at c0 c1 c2 c3 c4 c5 c6 c7 c8 c9 c10 c11 c12 c13 c14;cases hw : wordF tb
  ·have HB : Hid (true = !(wordF tb && (if ft then mayE cd 16 else blankE cd))) := LH (by rw [hw]; rfl);clear hw;go_wp2;go_meet;exact ⟨_, true, rfl, rfl, HB, HSx.out⟩
  ·cases ft
   ·go_wp2_with (go_at_call 65; refine stopAt ?_);unfold Hid;refine (show Calls _ _ _ _ _ from refzero_any cd _ _ HCO.out).mono ?_;rintro e w3 ⟨rfl, hS⟩;have HSx := LH (HSx.out.trans hS);have HB : Hid ((!(blankE cd)) = !(wordF tb && (if false then mayE cd 16 else blankE cd))) := LH (by rw [hw]; simp);clear hS hw;go_wp2;go_meet;exact ⟨_, _, rfl, rfl, HB, HSx.out⟩
   ·go_wp2_with (go_at_call 64; refine stopAt ?_);unfold Hid;refine (show Calls _ _ _ _ _ from refmay_any cd _ _ HCO.out).mono ?_;rintro e w3 ⟨rfl, hS⟩;have HSx := LH (HSx.out.trans hS);have HROW := LH (HROW.out.keep hS tv);have c5 := HROW.out.cell 5;simp only [LG] at c5;clear hS;cases hz : mayE cd 16
    ·have HB : Hid (true = !(wordF tb && (if true then mayE cd 16 else blankE cd))) := LH (by rw [hw, hz]; simp);clear hw hz;go_wp2;go_meet;exact ⟨_, true, rfl, rfl, HB, HSx.out⟩
    ·have HB : Hid (false = !(wordF tb && (if true then mayE cd 16 else blankE cd))) := LH (by rw [hw, hz]; simp);clear hw hz;go_wp2;go_meet;exact ⟨_, false, rfl, rfl, HB, HSx.out⟩
 case rest =>
 obtain ⟨w2, b, rfl, rfl, HB, hS⟩ := hcut;have HS := LH (HS.out.trans hS);have HROW := LH (HROW.out.keep hS tv);have HIT := LH (HIT.out.keepAll itK hS);have HRW := LH (HRW.out.keepAll rwK hS);have HAS := LH (HAS.out.keepAll asK hS);have HCO := LH (HCO.out.keepAll hS);clear c0 c1 c2 c3 c4 c5 c6 c7 c8 c9 c10 c11 c12 c13 c14;clear hS;have c0 := HROW.out.cell 0;have c1 := HROW.out.cell 1;have c2 := HROW.out.cell 2;have c3 := HROW.out.cell 3;have c4 := HROW.out.cell 4;have c5 := HROW.out.cell 5;have c6 := HROW.out.cell 6;have c7 := HROW.out.cell 7;have c8 := HROW.out.cell 8;have c9 := HROW.out.cell 9;have c10 := HROW.out.cell 10;have c11 := HROW.out.cell 11;have c12 := HROW.out.cell 12;have c13 := HROW.out.cell 13;have c14 := HROW.out.cell 14;simp only [LG] at c0 c1 c2 c3 c4 c5 c6 c7 c8 c9 c10 c11 c12 c13 c14;cases b
 case true =>
  have HB : Hid (false = X) := LH (by
   rw [HX.out, eq_of_nt HB.out, Bool.false_and])
  go_wp2;go_ret;exact ⟨ret_bool HB.out, HS.out⟩
 case false =>
 have HX : Hid (X = (decide (its.length = 0) && (decide (od = []) && (!dn && (decide (lm = 0) && (decide (rws.length = 0) && (sts.all mayAsn && (decide (1 ≤ sts.length) && decide (sts.length ≤ 6))))))))) := LH (by
  rw [HX.out, eq_of_nf HB.out, Bool.true_and])
 clear HB;by_cases b1 : 0 < its.length
 ·have hn : ¬ its = [] := fun h => by rw [h] at b1; simp at b1
  have HB : Hid (false = X) := LH (by rw [HX.out, decide_eq_false (show ¬ its.length = 0 by omega)]; rfl);go_wp2;go_ret;exact ⟨ret_bool HB.out, HS.out⟩
 have hn : its = [] := List.eq_nil_of_length_eq_zero (by omega);clear b1;subst hn;have hX := HX.out;rw [decide_eq_true (show ([] : List Itm).length = 0 from rfl), Bool.true_and] at hX;have HX := LH hX;clear hX;by_cases b1 : od = []
 case neg =>
  have e2 := str_ne_t b1;have HB : Hid (false = X) := LH (by rw [HX.out, decide_eq_false b1]; rfl);go_wp2;go_ret;exact ⟨ret_bool HB.out, HS.out⟩
 case pos =>
 subst b1;have hX := HX.out;rw [decide_eq_true (show ([] : List UInt8) = [] from rfl), Bool.true_and] at hX;have HX := LH hX;clear hX;cases dn
 case true =>
  have HB : Hid (false = X) := LH (by rw [HX.out]; rfl);go_wp2;go_ret;exact ⟨ret_bool HB.out, HS.out⟩
 have hX : X = _ := HX.out;rw [Bool.not_false, Bool.true_and] at hX;have HX := LH hX;clear hX;by_cases b1 : lm = 0
 case neg =>
  have e4 := ne_t b1;have HB : Hid (false = X) := LH (by rw [HX.out, decide_eq_false b1]; rfl);go_wp2;go_ret;exact ⟨ret_bool HB.out, HS.out⟩
 case pos =>
 subst b1;have hX := HX.out;rw [decide_eq_true (show (0 : Int) = 0 from rfl), Bool.true_and] at hX;have HX := LH hX;clear hX;by_cases b1 : 0 < rws.length
 ·have hn : ¬ rws = [] := fun h => by rw [h] at b1; simp at b1
  have HB : Hid (false = X) := LH (by rw [HX.out, decide_eq_false (show ¬ rws.length = 0 by omega)]; rfl);go_wp2;go_ret;exact ⟨ret_bool HB.out, HS.out⟩
 have hn : rws = [] := List.eq_nil_of_length_eq_zero (by omega);clear b1;subst hn;have hX := HX.out;rw [decide_eq_true (show ([] : List (List Ex)).length = 0 from rfl), Bool.true_and] at hX;have HX := LH hX;clear hX;go_wp2;go_loopw [5] (fun i wr => ∃ q : Nat, i = .int .i64 (q : Int) ∧ q ≤ sts.length ∧ X = ((sts.drop q).all mayAsn && (decide (1 ≤ sts.length) && decide (sts.length ≤ 6))) ∧ Same (fun _ => True) w2 wr) (fun i _ => sts.length - (intOf i).toNat)
 case atStart => exact ⟨0, rfl, Nat.zero_le _, HX.out, Same.refl _ _⟩
 case round =>
  obtain ⟨q, rfl, hq, hx, hS⟩ := hrel;have x1 : (0 : Int) ≤ (q : Int) := by omega
  have HS2 := LH hS;have HAS2 := LH (HAS.out.keepAll asK hS);have HROW2 := LH (HROW.out.keep hS tv);clear hS c4;have c4 := HROW2.out.cell 4;simp only [LG] at c4;by_cases hql : q < sts.length
  ·have x2 : (q : Int) < (sts.length : Int) := by omega
   obtain ⟨ad, uq, rfl, hok, hcl⟩ := LsR.at_ HAS2.out asCs_len hql;obtain ⟨A_u, c_u, rfl, -, -⟩ := (show ExR _ _ uq sts[q].e from hok).toL.form;have d0 := hcl 0 (by omega);rw [add_zero] at d0;have d1 := hcl 1 (by omega);rw [addr_add _ _ (by omega)] at d1;have d2 := hcl 2 (by omega);rw [addr_add _ _ (by omega)] at d2;have d3 := hcl 3 (by omega);rw [addr_add _ _ (by omega)] at d3;have d4 := hcl 4 (by omega);rw [addr_add _ _ (by omega)] at d4;have d5 := hcl 5 (by omega);rw [addr_add _ _ (by omega)] at d5;have d6 := hcl 6 (by omega);rw [addr_add _ _ (by omega)] at d6;simp only [asCs, exCs, LG] at d0 d1 d2 d3 d4 d5 d6;have HEX := LH (show ExR _ _ _ sts[q].e from hok);have hd : sts.drop q = sts[q] :: sts.drop (q + 1) := List.drop_eq_getElem_cons hql;rw [hd, List.all_cons, Bool.and_assoc] at hx;have HXq := LH hx;clear hx hd hok hcl;generalize sts[q] = y at *;go_wp2_with (go_at_call 63; refine stopAt ?_);unfold Hid;refine (refword_all y.name wr).mono ?_;rintro e w5 ⟨rfl, hS⟩;have HS5 := LH (HS2.out.trans hS);cases hw : wordF y.name
   ·have HB : Hid (false = X) := LH (by rw [HXq.out]; unfold mayAsn; rw [hw]; rfl);clear hS hw;go_wp2;go_ret;exact ⟨ret_bool HB.out, HS.out.trans HS5.out⟩
   have HEX := LH (HEX.out.keepAll hS);have HROW5 := LH (HROW2.out.keep hS tv);have k0 := hS.cell (p := ad.add (q * 7)) tv d0;have k1 := hS.cell (p := ⟨(ad.add (q * 7)).block, (ad.add (q * 7)).off + 1, none⟩) tv d1;have k2 := hS.cell (p := ⟨(ad.add (q * 7)).block, (ad.add (q * 7)).off + 2, none⟩) tv d2;have k3 := hS.cell (p := ⟨(ad.add (q * 7)).block, (ad.add (q * 7)).off + 3, none⟩) tv d3;have k4 := hS.cell (p := ⟨(ad.add (q * 7)).block, (ad.add (q * 7)).off + 4, none⟩) tv d4;have k5 := hS.cell (p := ⟨(ad.add (q * 7)).block, (ad.add (q * 7)).off + 5, none⟩) tv d5;have k6 := hS.cell (p := ⟨(ad.add (q * 7)).block, (ad.add (q * 7)).off + 6, none⟩) tv d6;have HXp : Hid (X = (mayE y.e 16 && ((sts.drop (q + 1)).all mayAsn && (decide (1 ≤ sts.length) && decide (sts.length ≤ 6))))) := LH (by rw [HXq.out]; unfold mayAsn; rw [hw]; rfl);clear hS hw d0 d1 d2 d3 d4 d5 d6 c4;have c4 := HROW5.out.cell 4;simp only [LG] at c4;go_wp2_with (go_at_call 64; refine stopAt ?_);unfold Hid;refine (show Calls _ _ _ _ _ from refmay_any y.e _ _ HEX.out).mono ?_;rintro e w7 ⟨rfl, hS⟩;have HS7 := LH (HS5.out.trans hS);clear hS;cases hb : mayE y.e 16
   ·have HB : Hid (false = X) := LH (by rw [HXp.out, hb]; rfl);clear hb;go_wp2;go_ret;exact ⟨ret_bool HB.out, HS.out.trans HS7.out⟩
   ·have HB : Hid (X = ((sts.drop (q + 1)).all mayAsn && (decide (1 ≤ sts.length) && decide (sts.length ≤ 6)))) := LH (by rw [HXp.out, hb]; rfl);clear hb;go_wp2;go_roundw
    case rel => exact ⟨q + 1, by go_num, by omega, HB.out, HS7.out⟩
    case measure => simp [intOf]; omega
  ·obtain rfl : q = sts.length := by omega
   rw [List.drop_length] at hx;have HXe : Hid (X = (decide (1 ≤ sts.length) && decide (sts.length ≤ 6))) := LH (by rw [hx]; rfl);have HS := LH (HS.out.trans HS2.out);clear hx;by_cases h1 : 1 ≤ sts.length
   ·have e6 : decide ((1 : Int) ≤ (sts.length : Int)) = true := decide_eq_true (by omega);by_cases h6 : sts.length ≤ 6
    ·have e7 : decide ((sts.length : Int) ≤ 6) = true := decide_eq_true (by omega);have HB : Hid (true = X) := LH (by rw [HXe.out, decide_eq_true h1, decide_eq_true h6]; rfl);clear h1 h6;go_wp2;go_ret;exact ⟨ret_bool HB.out, HS.out⟩
    ·have e7 : decide ((sts.length : Int) ≤ 6) = false := decide_eq_false (by omega);have HB : Hid (false = X) := LH (by rw [HXe.out, decide_eq_false h6]; simp);clear h1 h6;go_wp2;go_ret;exact ⟨ret_bool HB.out, HS.out⟩
   ·have e6 : decide ((1 : Int) ≤ (sts.length : Int)) = false := decide_eq_false (by omega);have HB : Hid (false = X) := LH (by rw [HXe.out, decide_eq_false h1]; rfl);clear h1;go_wp2;go_ret;exact ⟨ret_bool HB.out, HS.out⟩
theorem refmays_any (s : Stm) (u : SU) (w : World) (h : StR w (fun _ => True) u s) : Calls Tryz.prog 31 #[stV u s] w (BoolP (mayS s) w) := by
 by_cases k1 : s.kind = 1
 ·exact refmays_1 s u w h k1
 by_cases k2 : s.kind = 2
 ·exact refmays_2 s u w h k2
 by_cases k3 : s.kind = 3
 ·exact refmays_3 s u w h k3
 exact refmays_4 s u w h k1 k2 k3
set_option maxRecDepth 100000 in
set_option maxHeartbeats 16000000 in
theorem refmaylot_any (l : LotM) (u : Value) (w : World) (h : LtR w (fun _ => True) u l) : Calls Tryz.prog 19 #[ltV u l] w (BoolP (mayLot l) w) := by
 obtain ⟨A, c, rfl, hc1, hc2⟩ := (show LsR stCsP 15 StR _ _ u l.stmts from h).form;unfold maxLen at hc2;obtain ⟨X, hX⟩ : ∃ X, X = mayLot l := ⟨_, rfl⟩;rw [← hX];rw [mayLot_eq] at hX;have HX := LH hX;have hA := (Same.refl (fun _ => True) w).alloc (.cells #[.int .i64 l.mode, .int .i64 l.n, .slice A l.stmts.length c] 25);have hrow := Row.new w 25 [.int .i64 l.mode, .int .i64 l.n, .slice A l.stmts.length c];have hl := LsR.keepAll stK h hA;clear hX h;go_enter Tryz.func19, Tryz.ntmps19;go_upto_region 1 with (fail);revert hA hrow hl;generalize w.alloc _ = w1;intro hA hrow hl;have HL := LH hl;have HS := LH hA;have HROW := LH hrow;obtain ⟨c0, c1, c2⟩ := CN3 hrow;clear hA hrow hl;by_cases b1 : l.mode < 0
 ·have e1 := decide_eq_true b1;have HB : Hid (false = X) := LH (by rw [HX.out, decide_eq_false (show ¬ 0 ≤ l.mode by omega)]; rfl);go_wp2;go_ret;exact ⟨ret_bool HB.out, HS.out⟩
 have e1 : decide (l.mode < 0) = false := decide_eq_false b1;have hX := HX.out;rw [decide_eq_true (show 0 ≤ l.mode by omega), Bool.true_and] at hX;have HX := LH hX;clear hX;by_cases b2 : (2 : Int) < l.mode
 ·have e2 := decide_eq_true b2;have HB : Hid (false = X) := LH (by rw [HX.out, decide_eq_false (show ¬ l.mode ≤ 2 by omega)]; rfl);go_wp2;go_ret;exact ⟨ret_bool HB.out, HS.out⟩
 have e2 : decide ((2 : Int) < l.mode) = false := decide_eq_false b2;have hX := HX.out;rw [decide_eq_true (show l.mode ≤ 2 by omega), Bool.true_and] at hX;have HX := LH hX;clear hX;by_cases b3 : l.n < 0
 ·have e7 := decide_eq_true b3;have HB : Hid (false = X) := LH (by rw [HX.out, decide_eq_false (show ¬ 0 ≤ l.n by omega)]; rfl);go_wp2;go_ret;exact ⟨ret_bool HB.out, HS.out⟩
 have e7 : decide (l.n < 0) = false := decide_eq_false b3;have hX := HX.out;rw [decide_eq_true (show 0 ≤ l.n by omega), Bool.true_and] at hX;have HX := LH hX;clear hX;by_cases hz : l.mode = 0
 ·have e3 := int_eq_t hz;by_cases hn : l.n = 0
  ·have e4 := ne_f hn;have hX := HX.out;rw [decide_eq_true hn, Bool.or_true, Bool.true_and] at hX;have HX := LH hX;clear hX hz hn b1 b2 b3;by_cases b5 : (l.stmts.length : Int) < 1
   ·have e5 := decide_eq_true b5;have HB : Hid (false = X) := LH (by rw [HX.out, decide_eq_false (show ¬ 1 ≤ l.stmts.length by omega)]; rfl);go_wp2;go_ret;exact ⟨ret_bool HB.out, HS.out⟩
   have e5 : decide ((l.stmts.length : Int) < 1) = false := decide_eq_false b5;have hX := HX.out;rw [decide_eq_true (show 1 ≤ l.stmts.length by omega), Bool.true_and] at hX;have HX := LH hX;clear hX;by_cases b6 : (8 : Int) < (l.stmts.length : Int)
   ·have e6 := decide_eq_true b6;have HB : Hid (false = X) := LH (by rw [HX.out, decide_eq_false (show ¬ l.stmts.length ≤ 8 by omega)]; rfl);go_wp2;go_ret;exact ⟨ret_bool HB.out, HS.out⟩
   have e6 : decide ((8 : Int) < (l.stmts.length : Int)) = false := decide_eq_false b6;have hX := HX.out;rw [decide_eq_true (show l.stmts.length ≤ 8 by omega), Bool.true_and] at hX;have HX := LH hX;clear hX;clear b5 b6;go_wp2;go_loopw [3] (fun i wr => ∃ q : Nat, i = .int .i64 (q : Int) ∧ q ≤ l.stmts.length ∧ X = (l.stmts.drop q).all mayS ∧ Same (fun _ => True) w1 wr) (fun i _ => l.stmts.length - (intOf i).toNat)
   case atStart => exact ⟨0, rfl, Nat.zero_le _, HX.out, Same.refl _ _⟩
   case round =>
    obtain ⟨q, rfl, hq, hx, hS⟩ := hrel;have x1 : (0 : Int) ≤ (q : Int) := by omega
    have HS2 := LH hS;have HL2 := LH (HL.out.keepAll stK hS);have HROW2 := LH (HROW.out.keep hS tv);clear hS c0 c1 c2;have c2 := HROW2.out.cell 2;simp only [LG] at c2;by_cases hql : q < l.stmts.length
    ·have x2 : (q : Int) < (l.stmts.length : Int) := by omega
     obtain ⟨ad, u, rfl, hok, hcl⟩ := LsR.at_ HL2.out stCsP_len hql;obtain ⟨ui, ur, us, uc⟩ := u;obtain ⟨A_u1, c_u1, q1, -⟩ := LsR.form (show LsR itCs 7 itOk _ _ ui l.stmts[q].items from hok.1);subst q1;obtain ⟨A_u2, c_u2, q1, -⟩ := LsR.form (show LsR rwCs 1 rwOk _ _ ur l.stmts[q].rows from hok.2.1);subst q1;obtain ⟨A_u3, c_u3, q1, -⟩ := LsR.form (show LsR asCs 7 asOk _ _ us l.stmts[q].sets from hok.2.2.1);subst q1;obtain ⟨A_u4, c_u4, q1, -⟩ := (show ExR _ _ uc l.stmts[q].cond from hok.2.2.2).toL.form;subst q1;have d0 := hcl 0 (by omega);rw [add_zero] at d0;have d1 := hcl 1 (by omega);rw [addr_add _ _ (by omega)] at d1;have d2 := hcl 2 (by omega);rw [addr_add _ _ (by omega)] at d2;have d3 := hcl 3 (by omega);rw [addr_add _ _ (by omega)] at d3;have d4 := hcl 4 (by omega);rw [addr_add _ _ (by omega)] at d4;have d5 := hcl 5 (by omega);rw [addr_add _ _ (by omega)] at d5;have d6 := hcl 6 (by omega);rw [addr_add _ _ (by omega)] at d6;have d7 := hcl 7 (by omega);rw [addr_add _ _ (by omega)] at d7;have d8 := hcl 8 (by omega);rw [addr_add _ _ (by omega)] at d8;have d9 := hcl 9 (by omega);rw [addr_add _ _ (by omega)] at d9;have d10 := hcl 10 (by omega);rw [addr_add _ _ (by omega)] at d10;have d11 := hcl 11 (by omega);rw [addr_add _ _ (by omega)] at d11;have d12 := hcl 12 (by omega);rw [addr_add _ _ (by omega)] at d12;have d13 := hcl 13 (by omega);rw [addr_add _ _ (by omega)] at d13;have d14 := hcl 14 (by omega);rw [addr_add _ _ (by omega)] at d14;simp only [stCsP, stCs, LG] at d0 d1 d2 d3 d4 d5 d6 d7 d8 d9 d10 d11 d12 d13 d14;have HOK := LH hok;have hd : l.stmts.drop q = l.stmts[q] :: l.stmts.drop (q + 1) := List.drop_eq_getElem_cons hql;rw [hd, List.all_cons] at hx;have HXq := LH hx;clear hx hd hok hcl;generalize l.stmts[q] = y at *;go_wp2_with (go_at_call 31; refine stopAt ?_);unfold Hid;refine (show Calls _ _ _ _ _ from refmays_any y _ _ HOK.out).mono ?_;rintro e w5 ⟨rfl, hS⟩;have HS5 := LH (HS2.out.trans hS);clear hS;cases hb : mayS y
     ·have HB : Hid (false = X) := LH (by rw [HXq.out, hb]; rfl);clear hb;go_wp2;go_ret;exact ⟨ret_bool HB.out, HS.out.trans HS5.out⟩
     ·have HXn : Hid (X = (l.stmts.drop (q + 1)).all mayS) := LH (by rw [HXq.out, hb]; rfl);clear hb;go_wp2;go_roundw
      case rel => exact ⟨q + 1, by go_num, by omega, HXn.out, HS5.out⟩
      case measure => simp [intOf]; omega
    ·obtain rfl : q = l.stmts.length := by omega
     rw [List.drop_length] at hx;have HB : Hid (true = X) := LH (by rw [hx]; rfl);clear hx;go_wp2;go_ret;exact ⟨ret_bool HB.out, HS.out.trans HS2.out⟩
  ·have e4 := ne_t hn;have HB : Hid (false = X) := LH (by rw [HX.out, decide_eq_false hn, decide_eq_false (show ¬ l.mode ≠ 0 by omega)]; rfl);go_wp2;go_ret;exact ⟨ret_bool HB.out, HS.out⟩
 ·have e3 := int_eq_f hz;have hX := HX.out;rw [decide_eq_true (show l.mode ≠ 0 from hz), Bool.true_or, Bool.true_and] at hX;have HX := LH hX;clear hX hz b1 b2 b3;by_cases b5 : (l.stmts.length : Int) < 1
  ·have e5 := decide_eq_true b5;have HB : Hid (false = X) := LH (by rw [HX.out, decide_eq_false (show ¬ 1 ≤ l.stmts.length by omega)]; rfl);go_wp2;go_ret;exact ⟨ret_bool HB.out, HS.out⟩
  have e5 : decide ((l.stmts.length : Int) < 1) = false := decide_eq_false b5;have hX := HX.out;rw [decide_eq_true (show 1 ≤ l.stmts.length by omega), Bool.true_and] at hX;have HX := LH hX;clear hX;by_cases b6 : (8 : Int) < (l.stmts.length : Int)
  ·have e6 := decide_eq_true b6;have HB : Hid (false = X) := LH (by rw [HX.out, decide_eq_false (show ¬ l.stmts.length ≤ 8 by omega)]; rfl);go_wp2;go_ret;exact ⟨ret_bool HB.out, HS.out⟩
  have e6 : decide ((8 : Int) < (l.stmts.length : Int)) = false := decide_eq_false b6;have hX := HX.out;rw [decide_eq_true (show l.stmts.length ≤ 8 by omega), Bool.true_and] at hX;have HX := LH hX;clear hX;clear b5 b6;go_wp2;go_loopw [3] (fun i wr => ∃ q : Nat, i = .int .i64 (q : Int) ∧ q ≤ l.stmts.length ∧ X = (l.stmts.drop q).all mayS ∧ Same (fun _ => True) w1 wr) (fun i _ => l.stmts.length - (intOf i).toNat)
  case atStart => exact ⟨0, rfl, Nat.zero_le _, HX.out, Same.refl _ _⟩
  case round =>
   obtain ⟨q, rfl, hq, hx, hS⟩ := hrel;have x1 : (0 : Int) ≤ (q : Int) := by omega
   have HS2 := LH hS;have HL2 := LH (HL.out.keepAll stK hS);have HROW2 := LH (HROW.out.keep hS tv);clear hS c0 c1 c2;have c2 := HROW2.out.cell 2;simp only [LG] at c2;by_cases hql : q < l.stmts.length
   ·have x2 : (q : Int) < (l.stmts.length : Int) := by omega
    obtain ⟨ad, u, rfl, hok, hcl⟩ := LsR.at_ HL2.out stCsP_len hql;obtain ⟨ui, ur, us, uc⟩ := u;obtain ⟨A_u1, c_u1, q1, -⟩ := LsR.form (show LsR itCs 7 itOk _ _ ui l.stmts[q].items from hok.1);subst q1;obtain ⟨A_u2, c_u2, q1, -⟩ := LsR.form (show LsR rwCs 1 rwOk _ _ ur l.stmts[q].rows from hok.2.1);subst q1;obtain ⟨A_u3, c_u3, q1, -⟩ := LsR.form (show LsR asCs 7 asOk _ _ us l.stmts[q].sets from hok.2.2.1);subst q1;obtain ⟨A_u4, c_u4, q1, -⟩ := (show ExR _ _ uc l.stmts[q].cond from hok.2.2.2).toL.form;subst q1;have d0 := hcl 0 (by omega);rw [add_zero] at d0;have d1 := hcl 1 (by omega);rw [addr_add _ _ (by omega)] at d1;have d2 := hcl 2 (by omega);rw [addr_add _ _ (by omega)] at d2;have d3 := hcl 3 (by omega);rw [addr_add _ _ (by omega)] at d3;have d4 := hcl 4 (by omega);rw [addr_add _ _ (by omega)] at d4;have d5 := hcl 5 (by omega);rw [addr_add _ _ (by omega)] at d5;have d6 := hcl 6 (by omega);rw [addr_add _ _ (by omega)] at d6;have d7 := hcl 7 (by omega);rw [addr_add _ _ (by omega)] at d7;have d8 := hcl 8 (by omega);rw [addr_add _ _ (by omega)] at d8;have d9 := hcl 9 (by omega);rw [addr_add _ _ (by omega)] at d9;have d10 := hcl 10 (by omega);rw [addr_add _ _ (by omega)] at d10;have d11 := hcl 11 (by omega);rw [addr_add _ _ (by omega)] at d11;have d12 := hcl 12 (by omega);rw [addr_add _ _ (by omega)] at d12;have d13 := hcl 13 (by omega);rw [addr_add _ _ (by omega)] at d13;have d14 := hcl 14 (by omega);rw [addr_add _ _ (by omega)] at d14;simp only [stCsP, stCs, LG] at d0 d1 d2 d3 d4 d5 d6 d7 d8 d9 d10 d11 d12 d13 d14;have HOK := LH hok;have hd : l.stmts.drop q = l.stmts[q] :: l.stmts.drop (q + 1) := List.drop_eq_getElem_cons hql;rw [hd, List.all_cons] at hx;have HXq := LH hx;clear hx hd hok hcl;generalize l.stmts[q] = y at *;go_wp2_with (go_at_call 31; refine stopAt ?_);unfold Hid;refine (show Calls _ _ _ _ _ from refmays_any y _ _ HOK.out).mono ?_;rintro e w5 ⟨rfl, hS⟩;have HS5 := LH (HS2.out.trans hS);clear hS;cases hb : mayS y
    ·have HB : Hid (false = X) := LH (by rw [HXq.out, hb]; rfl);clear hb;go_wp2;go_ret;exact ⟨ret_bool HB.out, HS.out.trans HS5.out⟩
    ·have HXn : Hid (X = (l.stmts.drop (q + 1)).all mayS) := LH (by rw [HXq.out, hb]; rfl);clear hb;go_wp2;go_roundw
     case rel => exact ⟨q + 1, by go_num, by omega, HXn.out, HS5.out⟩
     case measure => simp [intOf]; omega
   ·obtain rfl : q = l.stmts.length := by omega
    rw [List.drop_length] at hx;have HB : Hid (true = X) := LH (by rw [hx]; rfl);clear hx;go_wp2;go_ret;exact ⟨ret_bool HB.out, HS.out.trans HS2.out⟩
set_option maxRecDepth 100000 in
set_option maxHeartbeats 16000000 in
theorem refprint_any (l : LotM) (u : Value) (w : World) (hI : LotI l) (h : LtR w (fun _ => True) u l) : Calls Tryz.prog 17 #[ltV u l] w (PrintP (printF l) w) := by
 obtain ⟨A, c, rfl, hc1, hc2⟩ := (show LsR stCsP 15 StR _ _ u l.stmts from h).form;unfold maxLen at hc2;have hA := (Same.refl (fun _ => True) w).alloc (.cells #[.int .i64 l.mode, .int .i64 l.n, .slice A l.stmts.length c] 25);have hrow := Row.new w 25 [.int .i64 l.mode, .int .i64 l.n, .slice A l.stmts.length c];have hl := LsR.keepAll stK h hA;have HI := LH hI;clear h hI;go_enter Tryz.func17, Tryz.ntmps17;go_upto_region 1 with (fail);revert hA hrow hl;generalize w.alloc _ = w1;intro hA hrow hl;have HL := LH hl;have HS := LH hA;have HROW := LH hrow;clear hA hrow hl;generalize w.heap.size = g at *;obtain ⟨c0, c1, c2⟩ := CN3 HROW.out;go_wp2_with (go_at_call 19; refine stopAt ?_);unfold Hid;refine (show Calls _ _ _ _ _ from refmaylot_any l _ _ HL.out).mono ?_;rintro e w2 ⟨rfl, hS⟩;have HL := LH (HL.out.keepAll stK hS);have HROW := LH (HROW.out.keep hS tv);have HS := LH (HS.out.trans hS);clear hS c0 c1 c2;obtain ⟨c0, c1, c2⟩ := CN3 HROW.out;cases hm : mayLot l
 case false =>
  have HP : Hid (printF l = ([], 9)) := LH (by unfold printF; rw [if_neg]; rintro ⟨h, -⟩; rw [hm] at h; cases h);clear hm;go_wp2;go_ret2;exact ⟨by rw [HP.out]; rfl, HS.out⟩
 case true =>
 have HM := LH hm;simp only [mayLot, Bool.and_eq_true, Bool.or_eq_true, decide_eq_true_eq, List.all_eq_true] at hm;obtain ⟨⟨⟨⟨⟨⟨hm0, hm2⟩, -⟩, -⟩, -⟩, hs8⟩, hall⟩ := hm;have HA := LH hall
 have HB2 : Hid (∀ q, (joinT [59, 32] ((l.stmts.take q).map showS)).length ≤ 8 * 2000000002) := LH fun q => by
  have h1 : (joinT [59, 32] ((l.stmts.take q).map showS)).length ≤ ((l.stmts.take q).map showS).length * 2000000002 := join_len [59, 32] 2000000000 _ fun x hx => by
   obtain ⟨y, hy, rfl⟩ := List.mem_map.1 hx;have hy := List.mem_of_mem_take hy;exact Nat.le_trans (showS_len (HA.out y hy) (HI.out.stmts y hy)) (by omega)
  have h2 : ((l.stmts.take q).map showS).length * 2000000002 ≤ 8 * 2000000002 := Nat.mul_le_mul_right _ (by rw [List.length_map, List.length_take]; omega);exact Nat.le_trans h1 h2
 have HM02 := LH (And.intro hm0 hm2);clear hall hm0 hm2;go_wp2;go_loopw [4, 5] (fun x i wr => ∃ q : Nat, x = .string (str (joinT [59, 32] ((l.stmts.take q).map showS))) ∧ i = .int .i64 (q : Int) ∧ q ≤ l.stmts.length ∧ Same (fun _ => True) w2 wr) (fun _ i _ => l.stmts.length - (intOf i).toNat)
 case atStart => exact ⟨0, rfl, rfl, Nat.zero_le _, Same.refl _ _⟩
 case round =>
  obtain ⟨q, rfl, rfl, hq, hS⟩ := hrel;have x1 : (0 : Int) ≤ (q : Int) := by omega
  have HL := LH (HL.out.keepAll stK hS);have HROW := LH (HROW.out.keep hS tv);have HS := LH (HS.out.trans hS);have HG := LH hS;clear hS c0 c1 c2;obtain ⟨c0, c1, c2⟩ := CN3 HROW.out;by_cases hql : q < l.stmts.length
  ·have x2 : (q : Int) < (l.stmts.length : Int) := by omega
   obtain ⟨ad, u1, rfl, hok1, hcl1⟩ := LsR.at_ HL.out stCsP_len hql;obtain ⟨ui1, ur1, us1, uc1⟩ := u1;obtain ⟨Ax1, cx1, q1, -⟩ := LsR.form (show LsR itCs 7 itOk _ _ ui1 l.stmts[q].items from hok1.1);subst q1;obtain ⟨Ay1, cy1, q1, -⟩ := LsR.form (show LsR rwCs 1 rwOk _ _ ur1 l.stmts[q].rows from hok1.2.1);subst q1;obtain ⟨Az1, cz1, q1, -⟩ := LsR.form (show LsR asCs 7 asOk _ _ us1 l.stmts[q].sets from hok1.2.2.1);subst q1;obtain ⟨Aw1, cw1, q1, -⟩ := (show ExR _ _ uc1 l.stmts[q].cond from hok1.2.2.2).toL.form;subst q1;have d0 := hcl1 0 (by omega);rw [add_zero] at d0;have d1 := hcl1 1 (by omega);rw [addr_add _ _ (by omega)] at d1;have d2 := hcl1 2 (by omega);rw [addr_add _ _ (by omega)] at d2;have d3 := hcl1 3 (by omega);rw [addr_add _ _ (by omega)] at d3;have d4 := hcl1 4 (by omega);rw [addr_add _ _ (by omega)] at d4;have d5 := hcl1 5 (by omega);rw [addr_add _ _ (by omega)] at d5;have d6 := hcl1 6 (by omega);rw [addr_add _ _ (by omega)] at d6;have d7 := hcl1 7 (by omega);rw [addr_add _ _ (by omega)] at d7;have d8 := hcl1 8 (by omega);rw [addr_add _ _ (by omega)] at d8;have d9 := hcl1 9 (by omega);rw [addr_add _ _ (by omega)] at d9;have d10 := hcl1 10 (by omega);rw [addr_add _ _ (by omega)] at d10;have d11 := hcl1 11 (by omega);rw [addr_add _ _ (by omega)] at d11;have d12 := hcl1 12 (by omega);rw [addr_add _ _ (by omega)] at d12;have d13 := hcl1 13 (by omega);rw [addr_add _ _ (by omega)] at d13;have d14 := hcl1 14 (by omega);rw [addr_add _ _ (by omega)] at d14;simp only [stCsP, stCs, LG] at d0 d1 d2 d3 d4 d5 d6 d7 d8 d9 d10 d11 d12 d13 d14;have HOK1 := LH hok1;clear hok1 hcl1;have hmem : l.stmts[q] ∈ l.stmts := List.getElem_mem hql;have ht := refstmtx_any l.stmts[q] _ wr (HA.out _ hmem) (HI.out.stmts _ hmem) HOK1.out;have hlx := showS_len (HA.out _ hmem) (HI.out.stmts _ hmem);have hb := HB2.out q
   have hj : q ≠ 0 → joinT [59, 32] ((l.stmts.take (q + 1)).map showS) = joinT [59, 32] ((l.stmts.take q).map showS) ++ [59, 32] ++ showS l.stmts[q] := fun h => by
    rw [List.take_succ_eq_append_getElem hql, List.map_append]
    exact joinT_snoc _ _ _ fun e => by
     have := congrArg List.length e;rw [List.length_map, List.length_take, List.length_nil] at this;omega
   have hj0 : q = 0 → joinT [59, 32] ((l.stmts.take (q + 1)).map showS) = showS l.stmts[q] ∧ joinT [59, 32] ((l.stmts.take q).map showS) = [] := fun h => by
    rw [List.take_succ_eq_append_getElem hql];subst h;exact ⟨rfl, rfl⟩
   clear hmem;generalize l.stmts[q] = y at *;generalize showS y = x at *;by_cases h0 : q = 0
   ·have hz := (hj0 h0).1;have HZ := LH hz;rw [(hj0 h0).2];subst h0;have a1 : ∀ w, (Op.stringOp .add ⟨#[]⟩ (str x)).run Tryz.prog w = .ok (.string (str x)) w := fun w => add_str [] x (by simp; omega) w
    have a2 : ∀ w, (Op.stringOp .add (str []) (str x)).run Tryz.prog w = .ok (.string (str x)) w := fun w => add_str [] x (by simp; omega) w
    clear hj hj0 hz hb hlx;simp only [Nat.zero_mul, add_zero] at d0 d1 d2 d3 d4 d5 d6 d7 d8 d9 d10 d11 d12 d13 d14;go_wp2_with (go_at_call 28; refine stopAt ?_);unfold Hid;refine (show Calls _ _ _ _ _ from ht).mono ?_;rintro e w5 ⟨rfl, hS⟩;have HG := LH (HG.out.trans hS);clear hS ht;go_wp2;go_roundw
    case rel => exact ⟨1, by rw [HZ.out], rfl, by omega, HG.out⟩
    case measure => simp [intOf]; omega
   ·have x3 : (0 : Int) < (q : Int) := by omega
    have HZ := LH (hj h0);generalize joinT [59, 32] ((l.stmts.take q).map showS) = J at *;have a1 : ∀ w, (Op.stringOp .add (str J) ⟨#[59, 32]⟩).run Tryz.prog w = .ok (.string (str (J ++ [59, 32]))) w := fun w => add_str J [59, 32] (by simp; omega) w
    have a2 : ∀ w, (Op.stringOp .add (str (J ++ [59, 32])) (str x)).run Tryz.prog w = .ok (.string (str (J ++ [59, 32] ++ x))) w := fun w => add_str (J ++ [59, 32]) x (by simp; omega) w
    generalize hY : J ++ [59, 32] = Y at a1 a2 HZ;clear hj hj0 h0 hb hlx hY;go_wp2_with (go_at_call 28; refine stopAt ?_);unfold Hid;refine (show Calls _ _ _ _ _ from ht).mono ?_;rintro e w5 ⟨rfl, hS⟩;have HG := LH (HG.out.trans hS);clear hS ht;go_wp2;go_roundw
    case rel => exact ⟨q + 1, by rw [HZ.out], by go_num, by omega, HG.out⟩
    case measure => simp [intOf]; omega
  ·obtain rfl : q = l.stmts.length := by omega
   have hb := HB2.out l.stmts.length;obtain ⟨J, hJ⟩ : ∃ J, J = joinT [59, 32] ((l.stmts.take l.stmts.length).map showS) := ⟨_, rfl⟩;rw [← hJ] at hb ⊢;rw [List.take_length] at hJ;have hIn := HI.out.n;by_cases hm1 : l.mode = 1
   ·have hgo := hm1;have em := int_eq_t hm1;obtain ⟨D, hD⟩ : ∃ D, D = intL l.n := ⟨_, rfl⟩;have hi64 := i64_I hIn;have hf := refdigits_int l.n wr hi64;have hlD := intL_len hi64;rw [← hD] at hf hlD;obtain ⟨Y1, hY1⟩ : ∃ Y : List UInt8, Y = J ++ [32, 65, 83, 32, 79, 70, 32, 83, 89, 83, 84, 69, 77, 32, 84, 73, 77, 69, 32] := ⟨_, rfl⟩;have lY1 : Y1.length = (J : List UInt8).length + ([32, 65, 83, 32, 79, 70, 32, 83, 89, 83, 84, 69, 77, 32, 84, 73, 77, 69, 32] : List UInt8).length := by rw [hY1, List.length_append]
    obtain ⟨Y2, hY2⟩ : ∃ Y : List UInt8, Y = Y1 ++ D := ⟨_, rfl⟩;have lY2 : Y2.length = (Y1 : List UInt8).length + (D : List UInt8).length := by rw [hY2, List.length_append]
    simp only [List.length_cons, List.length_nil] at lY1 lY2;have aY1 : ∀ w, (Op.stringOp .add (str J) ⟨#[32, 65, 83, 32, 79, 70, 32, 83, 89, 83, 84, 69, 77, 32, 84, 73, 77, 69, 32]⟩).run Tryz.prog w = .ok (.string (str Y1)) w := fun w => hY1 ▸ add_str J [32, 65, 83, 32, 79, 70, 32, 83, 89, 83, 84, 69, 77, 32, 84, 73, 77, 69, 32] (by first | omega | (simp only [List.length_cons, List.length_nil]; omega)) w
    have aY2 : ∀ w, (Op.stringOp .add (str Y1) (str D)).run Tryz.prog w = .ok (.string (str Y2)) w := fun w => hY2 ▸ add_str Y1 D (by first | omega | (simp only [List.length_cons, List.length_nil]; omega)) w
    have HJ := LH hJ;have HGO := LH hgo;have HY : Hid (Y2 = lotT l) := LH (by rw [hY2, hY1, HJ.out, hD]; unfold lotT modeT; rw [if_pos HGO.out]; simp);clear hgo hm1 hJ hD hY1 hY2 lY1 lY2 hlD hi64;go_wp2_with (go_at_call 29; refine stopAt ?_);unfold Hid;refine (show Calls _ _ _ _ _ from hf).mono ?_;rintro e w7 ⟨rfl, rfl⟩;clear hf;have HB : Hid (Y2 = lotT l) := LH (by exact HY.out);by_cases hbig : (2000 : Int) < ((str Y2).size : Int)
    ·have eb := decide_eq_true hbig;have HP : Hid (printF l = ([], 9)) := LH (by unfold printF; rw [if_neg]; rintro ⟨-, h⟩; rw [← HB.out] at h; rw [str_size] at hbig; omega);clear hbig;go_wp2;go_ret2;exact ⟨by rw [HP.out]; rfl, HS.out⟩
    ·have eb : decide ((2000 : Int) < ((str Y2).size : Int)) = false := decide_eq_false hbig;have HP : Hid (printF l = (Y2, 0)) := LH (by unfold printF; rw [if_pos ⟨HM.out, by rw [← HB.out]; rw [str_size] at hbig; omega⟩, HB.out]);clear hbig;go_wp2;go_ret2;exact ⟨by rw [HP.out]; rfl, HS.out⟩
   have em1 := int_eq_f hm1;by_cases hm2 : l.mode = 2
   ·have hgo := hm2;have em := int_eq_t hm2;obtain ⟨D, hD⟩ : ∃ D, D = intL l.n := ⟨_, rfl⟩;have hi64 := i64_I hIn;have hf := refdigits_int l.n wr hi64;have hlD := intL_len hi64;rw [← hD] at hf hlD;obtain ⟨Y1, hY1⟩ : ∃ Y : List UInt8, Y = J ++ [32, 65, 83, 32, 79, 70, 32, 83, 89, 83, 84, 69, 77, 32, 84, 73, 77, 69, 32, 66, 79, 85, 78, 68, 32] := ⟨_, rfl⟩;have lY1 : Y1.length = (J : List UInt8).length + ([32, 65, 83, 32, 79, 70, 32, 83, 89, 83, 84, 69, 77, 32, 84, 73, 77, 69, 32, 66, 79, 85, 78, 68, 32] : List UInt8).length := by rw [hY1, List.length_append]
    obtain ⟨Y2, hY2⟩ : ∃ Y : List UInt8, Y = Y1 ++ D := ⟨_, rfl⟩;have lY2 : Y2.length = (Y1 : List UInt8).length + (D : List UInt8).length := by rw [hY2, List.length_append]
    simp only [List.length_cons, List.length_nil] at lY1 lY2;have aY1 : ∀ w, (Op.stringOp .add (str J) ⟨#[32, 65, 83, 32, 79, 70, 32, 83, 89, 83, 84, 69, 77, 32, 84, 73, 77, 69, 32, 66, 79, 85, 78, 68, 32]⟩).run Tryz.prog w = .ok (.string (str Y1)) w := fun w => hY1 ▸ add_str J [32, 65, 83, 32, 79, 70, 32, 83, 89, 83, 84, 69, 77, 32, 84, 73, 77, 69, 32, 66, 79, 85, 78, 68, 32] (by first | omega | (simp only [List.length_cons, List.length_nil]; omega)) w
    have aY2 : ∀ w, (Op.stringOp .add (str Y1) (str D)).run Tryz.prog w = .ok (.string (str Y2)) w := fun w => hY2 ▸ add_str Y1 D (by first | omega | (simp only [List.length_cons, List.length_nil]; omega)) w
    have HJ := LH hJ;have HGO := LH hgo;have HY : Hid (Y2 = lotT l) := LH (by rw [hY2, hY1, HJ.out, hD]; unfold lotT modeT; rw [if_neg (show ¬ l.mode = 1 by have := HGO.out; omega), if_pos HGO.out]; simp);clear hgo hm2 hJ hD hY1 hY2 lY1 lY2 hlD hi64;go_wp2_with (go_at_call 29; refine stopAt ?_);unfold Hid;refine (show Calls _ _ _ _ _ from hf).mono ?_;rintro e w7 ⟨rfl, rfl⟩;clear hf;have HB : Hid (Y2 = lotT l) := LH (by exact HY.out);by_cases hbig : (2000 : Int) < ((str Y2).size : Int)
    ·have eb := decide_eq_true hbig;have HP : Hid (printF l = ([], 9)) := LH (by unfold printF; rw [if_neg]; rintro ⟨-, h⟩; rw [← HB.out] at h; rw [str_size] at hbig; omega);clear hbig;go_wp2;go_ret2;exact ⟨by rw [HP.out]; rfl, HS.out⟩
    ·have eb : decide ((2000 : Int) < ((str Y2).size : Int)) = false := decide_eq_false hbig;have HP : Hid (printF l = (Y2, 0)) := LH (by unfold printF; rw [if_pos ⟨HM.out, by rw [← HB.out]; rw [str_size] at hbig; omega⟩, HB.out]);clear hbig;go_wp2;go_ret2;exact ⟨by rw [HP.out]; rfl, HS.out⟩
   have em2 := int_eq_f hm2;have hgo : l.mode = 0 := by have := HM02.out; omega
   clear hm1 hm2;have HB : Hid (J = lotT l) := LH (by rw [hJ]; unfold lotT modeT; rw [if_neg (by omega), if_neg (by omega)]; simp);clear hgo hJ;by_cases hbig : (2000 : Int) < ((str J).size : Int)
   ·have eb := decide_eq_true hbig;have HP : Hid (printF l = ([], 9)) := LH (by unfold printF; rw [if_neg]; rintro ⟨-, h⟩; rw [← HB.out] at h; rw [str_size] at hbig; omega);clear hbig;go_wp2;go_ret2;exact ⟨by rw [HP.out]; rfl, HS.out⟩
   ·have eb : decide ((2000 : Int) < ((str J).size : Int)) = false := decide_eq_false hbig;have HP : Hid (printF l = (J, 0)) := LH (by unfold printF; rw [if_pos ⟨HM.out, by rw [← HB.out]; rw [str_size] at hbig; omega⟩, HB.out]);clear hbig;go_wp2;go_ret2;exact ⟨by rw [HP.out]; rfl, HS.out⟩
theorem sameBy_drop {α : Type} (f : α → α → Bool) {l l' : List α} {q : Nat} (h : q < l.length) (h' : q < l'.length) : sameBy f (l.drop q) (l'.drop q) = (f l[q] l'[q] && sameBy f (l.drop (q + 1)) (l'.drop (q + 1))) := by
 rw [List.drop_eq_getElem_cons h, List.drop_eq_getElem_cons h', sameBy_cons]
set_option maxRecDepth 100000 in
set_option maxHeartbeats 32000000 in
theorem refsames_any (s1 s2 : Stm) (u1 u2 : SU) (w : World) (h1 : StR w (fun _ => True) u1 s1) (h2 : StR w (fun _ => True) u2 s2) : Calls Tryz.prog 34 #[stV u1 s1, stV u2 s2] w (BoolP (sameS s1 s2) w) := by
 obtain ⟨kd1, tb1, its1, rws1, sts1, ft1, cd1, od1, dn1, lm1⟩ := s1;obtain ⟨kd2, tb2, its2, rws2, sts2, ft2, cd2, od2, dn2, lm2⟩ := s2;obtain ⟨ui1, ur1, us1, uc1⟩ := u1;obtain ⟨ui2, ur2, us2, uc2⟩ := u2;obtain ⟨Ai1, ci1, q1, i1, j1⟩ := LsR.form (show LsR itCs 7 itOk _ _ ui1 its1 from h1.1);subst q1;obtain ⟨Ar1, cr1, q1, k1, l1⟩ := LsR.form (show LsR rwCs 1 rwOk _ _ ur1 rws1 from h1.2.1);subst q1;obtain ⟨As1, cs1, q1, m1, n1⟩ := LsR.form (show LsR asCs 7 asOk _ _ us1 sts1 from h1.2.2.1);subst q1;obtain ⟨Ac1, cc1, q1, -⟩ := (show ExR _ _ uc1 cd1 from h1.2.2.2).toL.form;subst q1;unfold maxLen at j1 l1 n1;obtain ⟨Ai2, ci2, q1, i2, j2⟩ := LsR.form (show LsR itCs 7 itOk _ _ ui2 its2 from h2.1);subst q1;obtain ⟨Ar2, cr2, q1, k2, l2⟩ := LsR.form (show LsR rwCs 1 rwOk _ _ ur2 rws2 from h2.2.1);subst q1;obtain ⟨As2, cs2, q1, m2, n2⟩ := LsR.form (show LsR asCs 7 asOk _ _ us2 sts2 from h2.2.2.1);subst q1;obtain ⟨Ac2, cc2, q1, -⟩ := (show ExR _ _ uc2 cd2 from h2.2.2.2).toL.form;subst q1;unfold maxLen at j2 l2 n2;obtain ⟨X, hX⟩ : ∃ X, X = sameS ⟨kd1, tb1, its1, rws1, sts1, ft1, cd1, od1, dn1, lm1⟩ ⟨kd2, tb2, its2, rws2, sts2, ft2, cd2, od2, dn2, lm2⟩ := ⟨_, rfl⟩;rw [← hX]
 have hY : X = (decide (kd1 = kd2) && (decide (tb1 = tb2) && (decide (ft1 = ft2) && (sameE cd1 cd2 && (decide (od1 = od2) && (decide (dn1 = dn2) && (decide (lm1 = lm2) && (sameBy sameI its1 its2 && (sameBy sameEs rws1 rws2 && sameBy sameA sts1 sts2))))))))) := by
  rw [hX];simp only [sameS];generalize sameBy sameI its1 its2 = y1;generalize sameBy sameEs rws1 rws2 = y2;generalize sameBy sameA sts1 sts2 = y3;generalize sameE cd1 cd2 = y4;ac_rfl
 have HX := LH hY;clear hX;show Calls Tryz.prog 34 #[.agg #[.int .i64 kd1, .string (str tb1), .slice Ai1 its1.length ci1, .slice Ar1 rws1.length cr1, .slice As1 sts1.length cs1, .bool ft1, .int .i64 cd1.kind, .string (str cd1.s), .int .i64 cd1.v.kind, .int .i64 cd1.v.n, .string (str cd1.v.s), .slice Ac1 cd1.args.length cc1, .string (str od1), .bool dn1, .int .i64 lm1], .agg #[.int .i64 kd2, .string (str tb2), .slice Ai2 its2.length ci2, .slice Ar2 rws2.length cr2, .slice As2 sts2.length cs2, .bool ft2, .int .i64 cd2.kind, .string (str cd2.s), .int .i64 cd2.v.kind, .int .i64 cd2.v.n, .string (str cd2.v.s), .slice Ac2 cd2.args.length cc2, .string (str od2), .bool dn2, .int .i64 lm2]] w (BoolP X w);have hA := (Same.refl (fun _ => True) w).alloc (.cells #[.int .i64 kd1, .string (str tb1), .slice Ai1 its1.length ci1, .slice Ar1 rws1.length cr1, .slice As1 sts1.length cs1, .bool ft1, .int .i64 cd1.kind, .string (str cd1.s), .int .i64 cd1.v.kind, .int .i64 cd1.v.n, .string (str cd1.v.s), .slice Ac1 cd1.args.length cc1, .string (str od1), .bool dn1, .int .i64 lm1] 44);have hB := (Same.refl (fun _ => True) (w.alloc (.cells #[.int .i64 kd1, .string (str tb1), .slice Ai1 its1.length ci1, .slice Ar1 rws1.length cr1, .slice As1 sts1.length cs1, .bool ft1, .int .i64 cd1.kind, .string (str cd1.s), .int .i64 cd1.v.kind, .int .i64 cd1.v.n, .string (str cd1.v.s), .slice Ac1 cd1.args.length cc1, .string (str od1), .bool dn1, .int .i64 lm1] 44))).alloc (.cells #[.int .i64 kd2, .string (str tb2), .slice Ai2 its2.length ci2, .slice Ar2 rws2.length cr2, .slice As2 sts2.length cs2, .bool ft2, .int .i64 cd2.kind, .string (str cd2.s), .int .i64 cd2.v.kind, .int .i64 cd2.v.n, .string (str cd2.v.s), .slice Ac2 cd2.args.length cc2, .string (str od2), .bool dn2, .int .i64 lm2] 44);have hr1 := (Row.new w 44 [.int .i64 kd1, .string (str tb1), .slice Ai1 its1.length ci1, .slice Ar1 rws1.length cr1, .slice As1 sts1.length cs1, .bool ft1, .int .i64 cd1.kind, .string (str cd1.s), .int .i64 cd1.v.kind, .int .i64 cd1.v.n, .string (str cd1.v.s), .slice Ac1 cd1.args.length cc1, .string (str od1), .bool dn1, .int .i64 lm1]).keep hB tv;have hr2 := Row.new (w.alloc (.cells #[.int .i64 kd1, .string (str tb1), .slice Ai1 its1.length ci1, .slice Ar1 rws1.length cr1, .slice As1 sts1.length cs1, .bool ft1, .int .i64 cd1.kind, .string (str cd1.s), .int .i64 cd1.v.kind, .int .i64 cd1.v.n, .string (str cd1.v.s), .slice Ac1 cd1.args.length cc1, .string (str od1), .bool dn1, .int .i64 lm1] 44)) 44 [.int .i64 kd2, .string (str tb2), .slice Ai2 its2.length ci2, .slice Ar2 rws2.length cr2, .slice As2 sts2.length cs2, .bool ft2, .int .i64 cd2.kind, .string (str cd2.s), .int .i64 cd2.v.kind, .int .i64 cd2.v.n, .string (str cd2.v.s), .slice Ac2 cd2.args.length cc2, .string (str od2), .bool dn2, .int .i64 lm2];rw [World.size_alloc] at hr2;have hs := hA.trans hB;have o1 := stK.keep h1 hs;have o2 := stK.keep h2 hs;clear hY h1 h2 hA hB;go_enter Tryz.func34, Tryz.ntmps34;generalize hREST : Code.seq (Code.seq (Code.region 1 _ _) _) _ = REST;go_wp2;revert hr1 hr2 hs o1 o2;generalize (w.alloc _).alloc _ = w2;generalize w.heap.size = g;intro hr1 hr2 hs o1 o2;subst hREST;dsimp only [List.append];have HIT1 := LH (show LsR itCs 7 itOk _ _ _ its1 from o1.1);have HRW1 := LH (show LsR rwCs 1 rwOk _ _ _ rws1 from o1.2.1);have HAS1 := LH (show LsR asCs 7 asOk _ _ _ sts1 from o1.2.2.1);have HC1 := LH (show ExR _ _ _ cd1 from o1.2.2.2);have HR1 := LH hr1;have HIT2 := LH (show LsR itCs 7 itOk _ _ _ its2 from o2.1);have HRW2 := LH (show LsR rwCs 1 rwOk _ _ _ rws2 from o2.2.1);have HAS2 := LH (show LsR asCs 7 asOk _ _ _ sts2 from o2.2.2.1);have HC2 := LH (show ExR _ _ _ cd2 from o2.2.2.2);have HR2 := LH hr2;have HS := LH hs;clear hr1 hr2 hs o1 o2;have c0 := HR1.out.cell 0;have c1 := HR1.out.cell 1;have c5 := HR1.out.cell 5;have c6 := HR1.out.cell 6;have c7 := HR1.out.cell 7;have c8 := HR1.out.cell 8;have c9 := HR1.out.cell 9;have c10 := HR1.out.cell 10;have c11 := HR1.out.cell 11;simp only [LG] at c0 c1 c5 c6 c7 c8 c9 c10 c11;have d0 := HR2.out.cell 0;have d1 := HR2.out.cell 1;have d5 := HR2.out.cell 5;have d6 := HR2.out.cell 6;have d7 := HR2.out.cell 7;have d8 := HR2.out.cell 8;have d9 := HR2.out.cell 9;have d10 := HR2.out.cell 10;have d11 := HR2.out.cell 11;simp only [LG] at d0 d1 d5 d6 d7 d8 d9 d10 d11;by_cases h0 : kd1 = kd2
 case neg =>
  have e0 := ne_t h0;have HB : Hid (false = X) := LH (by rw [HX.out, decide_eq_false h0]; rfl);clear c1 d1 c5 d5 c6 d6 c7 d7 c8 d8 c9 d9 c10 d10 c11 d11;go_wp2;go_ret;exact ⟨ret_bool HB.out, HS.out⟩
 case pos =>
 subst h0;have hX := HX.out;rw [decide_eq_true rfl, Bool.true_and] at hX;have HX := LH hX;clear hX;by_cases h0 : tb1 = tb2
 case neg =>
  have e0 := str_ne_t h0;have HB : Hid (false = X) := LH (by rw [HX.out, decide_eq_false h0]; rfl);clear c5 d5 c6 d6 c7 d7 c8 d8 c9 d9 c10 d10 c11 d11;go_wp2;go_ret;exact ⟨ret_bool HB.out, HS.out⟩
 case pos =>
 subst h0;have hX := HX.out;rw [decide_eq_true rfl, Bool.true_and] at hX;have HX := LH hX;clear hX;by_cases h0 : ft1 = ft2
 case neg =>
  have HB : Hid (false = X) := LH (by rw [HX.out, decide_eq_false h0]; rfl);clear c6 d6 c7 d7 c8 d8 c9 d9 c10 d10 c11 d11;have h0 : ft2 = !ft1 := by cases ft1 <;> cases ft2 <;> simp_all
  subst h0;cases ft1
  ·go_wp2;go_ret;exact ⟨ret_bool HB.out, HS.out⟩
  ·go_wp2;go_ret;exact ⟨ret_bool HB.out, HS.out⟩
 case pos =>
 subst h0;have hX := HX.out;rw [decide_eq_true rfl, Bool.true_and] at hX;have HX := LH hX;clear hX;go_wp2_with (go_at_call 14; refine stopAt ?_);unfold Hid;refine (show Calls _ _ _ _ _ from refsamex_any cd1 cd2 _ _ _ HC1.out HC2.out).mono ?_;rintro e w2 ⟨rfl, hS⟩;have HIT1 := LH (HIT1.out.keepAll itK hS);have HIT2 := LH (HIT2.out.keepAll itK hS);have HRW1 := LH (HRW1.out.keepAll rwK hS);have HRW2 := LH (HRW2.out.keepAll rwK hS);have HAS1 := LH (HAS1.out.keepAll asK hS);have HAS2 := LH (HAS2.out.keepAll asK hS);have HR1 := LH (HR1.out.keep hS tv);have HR2 := LH (HR2.out.keep hS tv);have HS := LH (HS.out.trans hS);clear hS;clear c0 d0 c1 d1 c5 d5 c6 d6 c7 d7 c8 d8 c9 d9 c10 d10 c11 d11;have c12 := HR1.out.cell 12;have c13 := HR1.out.cell 13;have c14 := HR1.out.cell 14;have c2 := HR1.out.cell 2;have c3 := HR1.out.cell 3;have c4 := HR1.out.cell 4;simp only [LG] at c12 c13 c14 c2 c3 c4;have d12 := HR2.out.cell 12;have d13 := HR2.out.cell 13;have d14 := HR2.out.cell 14;have d2 := HR2.out.cell 2;have d3 := HR2.out.cell 3;have d4 := HR2.out.cell 4;simp only [LG] at d12 d13 d14 d2 d3 d4;cases hb : sameE cd1 cd2
 case false =>
  have HB : Hid (false = X) := LH (by rw [HX.out, hb]; rfl);clear hb;go_wp2;go_ret;exact ⟨ret_bool HB.out, HS.out⟩
 case true =>
 have hX := HX.out;rw [hb, Bool.true_and] at hX;have HX := LH hX;clear hX;clear hb;by_cases h0 : od1 = od2
 case neg =>
  have e0 := str_ne_t h0;have HB : Hid (false = X) := LH (by rw [HX.out, decide_eq_false h0]; rfl);clear c13 d13 c14 d14 c2 d2 c3 d3 c4 d4;go_wp2;go_ret;exact ⟨ret_bool HB.out, HS.out⟩
 case pos =>
 subst h0;have hX := HX.out;rw [decide_eq_true rfl, Bool.true_and] at hX;have HX := LH hX;clear hX;by_cases h0 : dn1 = dn2
 case neg =>
  have HB : Hid (false = X) := LH (by rw [HX.out, decide_eq_false h0]; rfl);clear c14 d14 c2 d2 c3 d3 c4 d4;have h0 : dn2 = !dn1 := by cases dn1 <;> cases dn2 <;> simp_all
  subst h0;cases dn1
  ·go_wp2;go_ret;exact ⟨ret_bool HB.out, HS.out⟩
  ·go_wp2;go_ret;exact ⟨ret_bool HB.out, HS.out⟩
 case pos =>
 subst h0;have hX := HX.out;rw [decide_eq_true rfl, Bool.true_and] at hX;have HX := LH hX;clear hX;by_cases h0 : lm1 = lm2
 case neg =>
  have e0 := ne_t h0;have HB : Hid (false = X) := LH (by rw [HX.out, decide_eq_false h0]; rfl);clear c2 d2 c3 d3 c4 d4;go_wp2;go_ret;exact ⟨ret_bool HB.out, HS.out⟩
 case pos =>
 subst h0;have hX := HX.out;rw [decide_eq_true rfl, Bool.true_and] at hX;have HX := LH hX;clear hX;by_cases h0 : its1.length = its2.length
 case neg =>
  have e0 : ((its1.length : Int) != (its2.length : Int)) = true := ne_t (by omega);have HB : Hid (false = X) := LH (by rw [HX.out, sameBy_len h0]; simp);clear c3 d3 c4 d4;go_wp2;go_ret;exact ⟨ret_bool HB.out, HS.out⟩
 case pos =>
 have eits : ((its1.length : Int) != (its2.length : Int)) = false := ne_f (by omega);have HLits := LH h0;clear h0;by_cases h0 : rws1.length = rws2.length
 case neg =>
  have e0 : ((rws1.length : Int) != (rws2.length : Int)) = true := ne_t (by omega);have HB : Hid (false = X) := LH (by rw [HX.out, sameBy_len h0]; simp);clear c4 d4;go_wp2;go_ret;exact ⟨ret_bool HB.out, HS.out⟩
 case pos =>
 have erws : ((rws1.length : Int) != (rws2.length : Int)) = false := ne_f (by omega);have HLrws := LH h0;clear h0;by_cases h0 : sts1.length = sts2.length
 case neg =>
  have e0 : ((sts1.length : Int) != (sts2.length : Int)) = true := ne_t (by omega);have HB : Hid (false = X) := LH (by rw [HX.out, sameBy_len h0]; simp)

  go_wp2
  go_ret
  exact ⟨ret_bool HB.out, HS.out⟩
 case pos =>
 have ests : ((sts1.length : Int) != (sts2.length : Int)) = false := ne_f (by omega)
 have HLsts := LH h0
 clear h0
 go_wp2
 go_loopw [5] (fun i wa => ∃ q : Nat, i = .int .i64 (q : Int) ∧ q ≤ its1.length ∧ X = (sameBy sameI (its1.drop q) (its2.drop q) && (sameBy sameEs rws1 rws2 && sameBy sameA sts1 sts2)) ∧ Same (fun _ => True) w2 wa) (fun i _ => its1.length - (intOf i).toNat)
 case atStart => exact ⟨0, rfl, Nat.zero_le _, HX.out, Same.refl _ _⟩
 case round =>
  rename World => wa
  obtain ⟨q, rfl, hq, hx, hS⟩ := hrel
  have xq : (0 : Int) ≤ (q : Int) := by omega
  have HIT1 := LH (HIT1.out.keepAll itK hS)
  have HIT2 := LH (HIT2.out.keepAll itK hS)
  have HRW1 := LH (HRW1.out.keepAll rwK hS)
  have HRW2 := LH (HRW2.out.keepAll rwK hS)
  have HAS1 := LH (HAS1.out.keepAll asK hS)
  have HAS2 := LH (HAS2.out.keepAll asK hS)
  have HR1 := LH (HR1.out.keep hS tv)
  have HR2 := LH (HR2.out.keep hS tv)
  have HS := LH (HS.out.trans hS)
  have HG := LH hS
  clear hS
  clear c2 d2 c3 d3 c4 d4
  have c2 := HR1.out.cell 2
  have c3 := HR1.out.cell 3
  have c4 := HR1.out.cell 4
  simp only [LG] at c2 c3 c4
  have d2 := HR2.out.cell 2
  have d3 := HR2.out.cell 3
  have d4 := HR2.out.cell 4
  simp only [LG] at d2 d3 d4
  by_cases hql : q < its1.length
  ·have hql2 : q < its2.length := by rw [← HLits.out]; exact hql
   have yq : (q : Int) < (its1.length : Int) := by omega
   have zq : (q : Int) < (its2.length : Int) := by omega
   obtain ⟨ad1, uq1, rfl, hok, hcl⟩ := LsR.at_ HIT1.out itCs_len hql
   obtain ⟨B1, nb1, rfl, -, -⟩ := (show ExR _ _ uq1 its1[q].e from hok).toL.form
   have x0 := hcl 0 (by omega)
   rw [add_zero] at x0
   have x1 := hcl 1 (by omega)
   rw [addr_add _ _ (by omega)] at x1
   have x2 := hcl 2 (by omega)
   rw [addr_add _ _ (by omega)] at x2
   have x3 := hcl 3 (by omega)
   rw [addr_add _ _ (by omega)] at x3
   have x4 := hcl 4 (by omega)
   rw [addr_add _ _ (by omega)] at x4
   have x5 := hcl 5 (by omega)
   rw [addr_add _ _ (by omega)] at x5
   have x6 := hcl 6 (by omega)
   rw [addr_add _ _ (by omega)] at x6
   simp only [itCs, exCs, LG] at x0 x1 x2 x3 x4 x5 x6
   have HX1 := LH (show ExR _ _ _ its1[q].e from hok)
   clear hok hcl
   obtain ⟨ad2, uq2, rfl, hok, hcl⟩ := LsR.at_ HIT2.out itCs_len hql2
   obtain ⟨B2, nb2, rfl, -, -⟩ := (show ExR _ _ uq2 its2[q].e from hok).toL.form
   have y0 := hcl 0 (by omega)
   rw [add_zero] at y0
   have y1 := hcl 1 (by omega)
   rw [addr_add _ _ (by omega)] at y1
   have y2 := hcl 2 (by omega)
   rw [addr_add _ _ (by omega)] at y2
   have y3 := hcl 3 (by omega)
   rw [addr_add _ _ (by omega)] at y3
   have y4 := hcl 4 (by omega)
   rw [addr_add _ _ (by omega)] at y4
   have y5 := hcl 5 (by omega)
   rw [addr_add _ _ (by omega)] at y5
   have y6 := hcl 6 (by omega)
   rw [addr_add _ _ (by omega)] at y6
   simp only [itCs, exCs, LG] at y0 y1 y2 y3 y4 y5 y6
   have HX2 := LH (show ExR _ _ _ its2[q].e from hok)
   clear hok hcl
   rw [sameBy_drop _ hql hql2, Bool.and_assoc] at hx
   have HXq := LH hx
   clear hx
   generalize its1[q] = v1 at *
   generalize its2[q] = v2 at *
   go_upto_region 6 with (fail)
   by_cases h0 : v1.kind = v2.kind
   case neg =>
    have e0 := ne_t h0
    have HB : Hid (false = X) := LH (by rw [HXq.out]; unfold sameI; rw [decide_eq_false h0]; rfl)
    go_quiet (fail)
    generalize hW : World.drewN wa _ = wR
    have hsR : Same (fun _ => True) wa wR := hW ▸ SR.drewN _
    clear hW
    have HS := LH (HS.out.trans hsR)
    go_wp2
    go_ret
    exact ⟨ret_bool HB.out, HS.out⟩
   case pos =>
   have e0 := ne_f h0
   have HF0 := LH h0
   clear h0
   go_still_tail 26, (by kernel_rfl)
   change wpList _ _ _ _ _ (World.drew wa)
   have hS : Same (fun _ => True) wa (World.drew wa) := SR.drew
   have HX1 := LH (HX1.out.keepAll hS)
   have HX2 := LH (HX2.out.keepAll hS)
   have HG := LH (HG.out.trans hS)
   have HS := LH (HS.out.trans hS)
   clear hS c2 c3 c4 d2 d3 d4 x0 y0 x1 y1 x2 y2 x3 y3 x4 y4 x5 y5 x6 y6
   generalize World.drew wa = w5 at *
   go_wp2_with (go_at_call 14; refine stopAt ?_)
   unfold Hid
   refine (show Calls _ _ _ _ _ from refsamex_any v1.e v2.e _ _ _ HX1.out HX2.out).mono ?_
   rintro e w6 ⟨rfl, hS⟩
   have HS := LH (HS.out.trans hS)
   have HG := LH (HG.out.trans hS)
   clear hS
   cases hb : sameE v1.e v2.e
   case false =>
    have HB : Hid (false = X) := LH (by rw [HXq.out]; unfold sameI; rw [hb, Bool.and_false]; rfl)
    clear hb
    go_wp2
    go_ret
    exact ⟨ret_bool HB.out, HS.out⟩
   case true =>
   have HB : Hid (X = (sameBy sameI (its1.drop (q + 1)) (its2.drop (q + 1)) && (sameBy sameEs rws1 rws2 && sameBy sameA sts1 sts2))) := LH (by rw [HXq.out]; unfold sameI; rw [hb, decide_eq_true HF0.out]; rfl)
   clear hb
   go_wp2
   go_roundw
   case rel => exact ⟨q + 1, by go_num, by omega, HB.out, HG.out⟩
   case measure => simp [intOf]; omega
  ·obtain rfl : q = its1.length := by omega
   rw [List.drop_eq_nil_of_le (Nat.le_refl _), List.drop_eq_nil_of_le (by rw [HLits.out]; exact Nat.le_refl _)] at hx
   have HX : Hid (X = (sameBy sameEs rws1 rws2 && sameBy sameA sts1 sts2)) := LH (by rw [hx]; rfl)
   clear hx
   go_wp2
   go_loopw [6] (fun i wb => ∃ q : Nat, i = .int .i64 (q : Int) ∧ q ≤ rws1.length ∧ X = (sameBy sameEs (rws1.drop q) (rws2.drop q) && sameBy sameA sts1 sts2) ∧ Same (fun _ => True) wa wb) (fun i _ => rws1.length - (intOf i).toNat)
   case atStart => exact ⟨0, rfl, Nat.zero_le _, HX.out, Same.refl _ _⟩
   case round =>
    rename World => wb
    obtain ⟨q, rfl, hq, hx, hS⟩ := hrel
    have xq : (0 : Int) ≤ (q : Int) := by omega
    have HIT1 := LH (HIT1.out.keepAll itK hS)
    have HIT2 := LH (HIT2.out.keepAll itK hS)
    have HRW1 := LH (HRW1.out.keepAll rwK hS)
    have HRW2 := LH (HRW2.out.keepAll rwK hS)
    have HAS1 := LH (HAS1.out.keepAll asK hS)
    have HAS2 := LH (HAS2.out.keepAll asK hS)
    have HR1 := LH (HR1.out.keep hS tv)
    have HR2 := LH (HR2.out.keep hS tv)
    have HS := LH (HS.out.trans hS)
    have HG := LH hS
    clear hS
    clear c2 d2 c3 d3 c4 d4
    have c3 := HR1.out.cell 3
    have c4 := HR1.out.cell 4
    simp only [LG] at c3 c4
    have d3 := HR2.out.cell 3
    have d4 := HR2.out.cell 4
    simp only [LG] at d3 d4
    by_cases hql : q < rws1.length
    ·have hql2 : q < rws2.length := by rw [← HLrws.out]; exact hql
     have yq : (q : Int) < (rws1.length : Int) := by omega
     have zq : (q : Int) < (rws2.length : Int) := by omega
     obtain ⟨ad1, uq1, rfl, hok, hcl⟩ := LsR.at_ HRW1.out rwCs_len hql
     obtain ⟨B1, nb1, rfl, bb1, bc1⟩ := (show ExL _ _ uq1 rws1[q] from hok).form
     unfold maxLen at bc1
     have x0 := hcl 0 (by omega)
     rw [add_zero, Nat.mul_one] at x0
     simp only [rwCs, LG] at x0
     have HE1 := LH (ls_exL.2 (show ExL _ _ _ rws1[q] from hok))
     clear hok hcl
     obtain ⟨ad2, uq2, rfl, hok, hcl⟩ := LsR.at_ HRW2.out rwCs_len hql2
     obtain ⟨B2, nb2, rfl, bb2, bc2⟩ := (show ExL _ _ uq2 rws2[q] from hok).form
     unfold maxLen at bc2
     have y0 := hcl 0 (by omega)
     rw [add_zero, Nat.mul_one] at y0
     simp only [rwCs, LG] at y0
     have HE2 := LH (ls_exL.2 (show ExL _ _ _ rws2[q] from hok))
     clear hok hcl
     rw [sameBy_drop _ hql hql2, Bool.and_assoc] at hx
     have HXq := LH hx
     clear hx
     generalize rws1[q] = r1 at *
     generalize rws2[q] = r2 at *
     go_upto_region 11 with (fail)
     by_cases h0 : r1.length = r2.length
     case neg =>
      have e0 : ((r1.length : Int) != (r2.length : Int)) = true := ne_t (by omega)
      have HB : Hid (false = X) := LH (by rw [HXq.out, sameEs_len h0]; rfl)
      go_quiet (fail)
      generalize hW : World.drewN wb _ = wR
      have hsR : Same (fun _ => True) wb wR := hW ▸ SR.drewN _
      clear hW
      have HS := LH (HS.out.trans hsR)
      go_wp2
      go_ret
      exact ⟨ret_bool HB.out, HS.out⟩
     case pos =>
     have e0 : ((r1.length : Int) != (r2.length : Int)) = false := ne_f (by omega)
     have HLr := LH h0
     clear h0
     go_quiet (fail)
     generalize hW : World.drewN wb _ = wR
     have hS : Same (fun _ => True) wb wR := hW ▸ SR.drewN _
     clear hW
     have HIT1 := LH (HIT1.out.keepAll itK hS)
     have HIT2 := LH (HIT2.out.keepAll itK hS)
     have HRW1 := LH (HRW1.out.keepAll rwK hS)
     have HRW2 := LH (HRW2.out.keepAll rwK hS)
     have HAS1 := LH (HAS1.out.keepAll asK hS)
     have HAS2 := LH (HAS2.out.keepAll asK hS)
     have HR1 := LH (HR1.out.keep hS tv)
     have HR2 := LH (HR2.out.keep hS tv)
     have HS := LH (HS.out.trans hS)
     have HE1 := LH (HE1.out.keepAll exK hS)
     have HE2 := LH (HE2.out.keepAll exK hS)
     have HG := LH (HG.out.trans hS)
     have x1 := hS.cell (p := ad1.add q) tv x0
     have y1 := hS.cell (p := ad2.add q) tv y0
     clear hS x0 y0
     clear c3 d3 c4 d4
     have c3 := HR1.out.cell 3
     simp only [LG] at c3
     have d3 := HR2.out.cell 3
     simp only [LG] at d3
     go_wp2
     go_loopw [7] (fun i wc => ∃ p : Nat, i = .int .i64 (p : Int) ∧ p ≤ r1.length ∧ X = (sameEs (r1.drop p) (r2.drop p) && (sameBy sameEs (rws1.drop (q + 1)) (rws2.drop (q + 1)) && sameBy sameA sts1 sts2)) ∧ Same (fun _ => True) wR wc) (fun i _ => r1.length - (intOf i).toNat)
     case atStart => exact ⟨0, rfl, Nat.zero_le _, HXq.out, Same.refl _ _⟩
     case round =>
      rename World => wc
      obtain ⟨p, rfl, hp, hx, hS⟩ := hrel
      have xp : (0 : Int) ≤ (p : Int) := by omega
      have HIT1 := LH (HIT1.out.keepAll itK hS)
      have HIT2 := LH (HIT2.out.keepAll itK hS)
      have HRW1 := LH (HRW1.out.keepAll rwK hS)
      have HRW2 := LH (HRW2.out.keepAll rwK hS)
      have HAS1 := LH (HAS1.out.keepAll asK hS)
      have HAS2 := LH (HAS2.out.keepAll asK hS)
      have HR1 := LH (HR1.out.keep hS tv)
      have HR2 := LH (HR2.out.keep hS tv)
      have HS := LH (HS.out.trans hS)
      have HE1 := LH (HE1.out.keepAll exK hS)
      have HE2 := LH (HE2.out.keepAll exK hS)
      have HG5 := LH hS
      have HG := LH (HG.out.trans hS)
      have x2 := hS.cell (p := ad1.add q) tv x1
      have y2 := hS.cell (p := ad2.add q) tv y1
      clear hS x1 y1 c3 d3
      have c3 := HR1.out.cell 3
      simp only [LG] at c3
      have d3 := HR2.out.cell 3
      simp only [LG] at d3
      by_cases hpl : p < r1.length
      ·have hpl2 : p < r2.length := by rw [← HLr.out]; exact hpl
       have yp : (p : Int) < (r1.length : Int) := by omega
       have zp : (p : Int) < (r2.length : Int) := by omega
       obtain ⟨ae1, ue1, rfl, hok, hcl⟩ := LsR.at_ HE1.out exCsP_len hpl
       obtain ⟨Be1, ne1, rfl, -, -⟩ := (show ExR _ _ ue1 r1[p] from hok).toL.form
       have s0 := hcl 0 (by omega)
       rw [add_zero] at s0
       have s1 := hcl 1 (by omega)
       rw [addr_add _ _ (by omega)] at s1
       have s2 := hcl 2 (by omega)
       rw [addr_add _ _ (by omega)] at s2
       have s3 := hcl 3 (by omega)
       rw [addr_add _ _ (by omega)] at s3
       have s4 := hcl 4 (by omega)
       rw [addr_add _ _ (by omega)] at s4
       have s5 := hcl 5 (by omega)
       rw [addr_add _ _ (by omega)] at s5
       simp only [exCsP, exCs, LG] at s0 s1 s2 s3 s4 s5
       have HX1 := LH (show ExR _ _ _ r1[p] from hok)
       clear hok hcl
       obtain ⟨ae2, ue2, rfl, hok, hcl⟩ := LsR.at_ HE2.out exCsP_len hpl2
       obtain ⟨Be2, ne2, rfl, -, -⟩ := (show ExR _ _ ue2 r2[p] from hok).toL.form
       have t0 := hcl 0 (by omega)
       rw [add_zero] at t0
       have t1 := hcl 1 (by omega)
       rw [addr_add _ _ (by omega)] at t1
       have t2 := hcl 2 (by omega)
       rw [addr_add _ _ (by omega)] at t2
       have t3 := hcl 3 (by omega)
       rw [addr_add _ _ (by omega)] at t3
       have t4 := hcl 4 (by omega)
       rw [addr_add _ _ (by omega)] at t4
       have t5 := hcl 5 (by omega)
       rw [addr_add _ _ (by omega)] at t5
       simp only [exCsP, exCs, LG] at t0 t1 t2 t3 t4 t5
       have HX2 := LH (show ExR _ _ _ r2[p] from hok)
       clear hok hcl
       rw [sameEs_drop hpl hpl2, Bool.and_assoc] at hx
       have HXp := LH hx
       clear hx
       generalize r1[p] = v1 at *
       generalize r2[p] = v2 at *
       go_upto_region 16 with (fail)
       go_still_tail 16, (by kernel_rfl)
       change wpList _ _ _ _ _ wc.drew
       have hS : Same (fun _ => True) wc wc.drew := SR.drew
       have HX1 := LH (HX1.out.keepAll hS)
       have HX2 := LH (HX2.out.keepAll hS)
       have HS := LH (HS.out.trans hS)
       have HG5 := LH (HG5.out.trans hS)
       clear hS x2 y2 c3 d3 s0 s1 s2 s3 s4 s5 t0 t1 t2 t3 t4 t5
       generalize wc.drew = w5 at *
       go_wp2_with (go_at_call 14; refine stopAt ?_)
       unfold Hid
       refine (show Calls _ _ _ _ _ from refsamex_any v1 v2 _ _ _ HX1.out HX2.out).mono ?_
       rintro e w6 ⟨rfl, hS⟩
       have HS := LH (HS.out.trans hS)
       have HG5 := LH (HG5.out.trans hS)
       clear hS
       cases hb : sameE v1 v2
       case false =>
        have HB : Hid (false = X) := LH (by rw [HXp.out, hb]; rfl)
        clear hb
        go_wp2
        go_ret
        exact ⟨ret_bool HB.out, HS.out⟩
       case true =>
       have HB : Hid (X = (sameEs (r1.drop (p + 1)) (r2.drop (p + 1)) && (sameBy sameEs (rws1.drop (q + 1)) (rws2.drop (q + 1)) && sameBy sameA sts1 sts2))) := LH (by rw [HXp.out, hb]; rfl)
       clear hb
       go_wp2
       go_roundw
       case rel => exact ⟨p + 1, by go_num, by omega, HB.out, HG5.out⟩
       case measure => simp [intOf]; omega
      ·obtain rfl : p = r1.length := by omega
       rw [List.drop_eq_nil_of_le (Nat.le_refl _), List.drop_eq_nil_of_le (by rw [HLr.out]; exact Nat.le_refl _)] at hx
       have HB : Hid (X = (sameBy sameEs (rws1.drop (q + 1)) (rws2.drop (q + 1)) && sameBy sameA sts1 sts2)) := LH (by rw [hx]; rfl)
       clear hx
       go_wp2
       go_roundw
       case rel => exact ⟨q + 1, by go_num, by omega, HB.out, HG.out⟩
       case measure => simp [intOf]; omega
    ·obtain rfl : q = rws1.length := by omega
     rw [List.drop_eq_nil_of_le (Nat.le_refl _), List.drop_eq_nil_of_le (by rw [HLrws.out]; exact Nat.le_refl _)] at hx
     have HX : Hid (X = sameBy sameA sts1 sts2) := LH (by rw [hx]; rfl)
     clear hx
     have c2 := HR1.out.cell 2
     have d2 := HR2.out.cell 2
     simp only [LG] at c2 d2
     go_wp2
     go_loopw [8] (fun i wd => ∃ q : Nat, i = .int .i64 (q : Int) ∧ q ≤ sts1.length ∧ X = (sameBy sameA (sts1.drop q) (sts2.drop q)) ∧ Same (fun _ => True) wb wd) (fun i _ => sts1.length - (intOf i).toNat)
     case atStart => exact ⟨0, rfl, Nat.zero_le _, HX.out, Same.refl _ _⟩
     case round =>
      rename World => wd
      obtain ⟨q, rfl, hq, hx, hS⟩ := hrel
      have xq : (0 : Int) ≤ (q : Int) := by omega
      have HIT1 := LH (HIT1.out.keepAll itK hS)
      have HIT2 := LH (HIT2.out.keepAll itK hS)
      have HRW1 := LH (HRW1.out.keepAll rwK hS)
      have HRW2 := LH (HRW2.out.keepAll rwK hS)
      have HAS1 := LH (HAS1.out.keepAll asK hS)
      have HAS2 := LH (HAS2.out.keepAll asK hS)
      have HR1 := LH (HR1.out.keep hS tv)
      have HR2 := LH (HR2.out.keep hS tv)
      have HS := LH (HS.out.trans hS)
      have HG := LH hS
      clear hS
      clear c2 d2 c3 d3 c4 d4
      have c2 := HR1.out.cell 2
      have c3 := HR1.out.cell 3
      have c4 := HR1.out.cell 4
      simp only [LG] at c2 c3 c4
      have d2 := HR2.out.cell 2
      have d3 := HR2.out.cell 3
      have d4 := HR2.out.cell 4
      simp only [LG] at d2 d3 d4
      by_cases hql : q < sts1.length
      ·have hql2 : q < sts2.length := by rw [← HLsts.out]; exact hql
       have yq : (q : Int) < (sts1.length : Int) := by omega
       have zq : (q : Int) < (sts2.length : Int) := by omega
       obtain ⟨ad1, uq1, rfl, hok, hcl⟩ := LsR.at_ HAS1.out asCs_len hql
       obtain ⟨B1, nb1, rfl, -, -⟩ := (show ExR _ _ uq1 sts1[q].e from hok).toL.form
       have x0 := hcl 0 (by omega)
       rw [add_zero] at x0
       have x1 := hcl 1 (by omega)
       rw [addr_add _ _ (by omega)] at x1
       have x2 := hcl 2 (by omega)
       rw [addr_add _ _ (by omega)] at x2
       have x3 := hcl 3 (by omega)
       rw [addr_add _ _ (by omega)] at x3
       have x4 := hcl 4 (by omega)
       rw [addr_add _ _ (by omega)] at x4
       have x5 := hcl 5 (by omega)
       rw [addr_add _ _ (by omega)] at x5
       have x6 := hcl 6 (by omega)
       rw [addr_add _ _ (by omega)] at x6
       simp only [asCs, exCs, LG] at x0 x1 x2 x3 x4 x5 x6
       have HX1 := LH (show ExR _ _ _ sts1[q].e from hok)
       clear hok hcl
       obtain ⟨ad2, uq2, rfl, hok, hcl⟩ := LsR.at_ HAS2.out asCs_len hql2
       obtain ⟨B2, nb2, rfl, -, -⟩ := (show ExR _ _ uq2 sts2[q].e from hok).toL.form
       have y0 := hcl 0 (by omega)
       rw [add_zero] at y0
       have y1 := hcl 1 (by omega)
       rw [addr_add _ _ (by omega)] at y1
       have y2 := hcl 2 (by omega)
       rw [addr_add _ _ (by omega)] at y2
       have y3 := hcl 3 (by omega)
       rw [addr_add _ _ (by omega)] at y3
       have y4 := hcl 4 (by omega)
       rw [addr_add _ _ (by omega)] at y4
       have y5 := hcl 5 (by omega)
       rw [addr_add _ _ (by omega)] at y5
       have y6 := hcl 6 (by omega)
       rw [addr_add _ _ (by omega)] at y6
       simp only [asCs, exCs, LG] at y0 y1 y2 y3 y4 y5 y6
       have HX2 := LH (show ExR _ _ _ sts2[q].e from hok)
       clear hok hcl
       rw [sameBy_drop _ hql hql2] at hx
       have HXq := LH hx
       clear hx
       generalize sts1[q] = v1 at *
       generalize sts2[q] = v2 at *
       go_upto_region 21 with (fail)
       by_cases h0 : v1.name = v2.name
       case neg =>
        have e0 := str_ne_t h0
        have HB : Hid (false = X) := LH (by rw [HXq.out]; unfold sameA; rw [decide_eq_false h0]; rfl)
        go_quiet (fail)
        generalize hW : World.drewN wd _ = wR
        have hsR : Same (fun _ => True) wd wR := hW ▸ SR.drewN _
        clear hW
        have HS := LH (HS.out.trans hsR)
        go_wp2
        go_ret
        exact ⟨ret_bool HB.out, HS.out⟩
       case pos =>
       have e0 := str_ne_f h0
       have HF0 := LH h0
       go_still_tail 26, (by kernel_rfl)
       change wpList _ _ _ _ _ (World.drew wd)
       have hS : Same (fun _ => True) wd (World.drew wd) := SR.drew
       have HX1 := LH (HX1.out.keepAll hS)
       have HX2 := LH (HX2.out.keepAll hS)
       have HG := LH (HG.out.trans hS)
       have HS := LH (HS.out.trans hS)
       clear hS c2 c3 c4 d2 d3 d4 x0 y0 x1 y1 x2 y2 x3 y3 x4 y4 x5 y5 x6 y6
       generalize World.drew wd = w5 at *
       go_wp2_with (go_at_call 14; refine stopAt ?_)
       unfold Hid
       refine (show Calls _ _ _ _ _ from refsamex_any v1.e v2.e _ _ _ HX1.out HX2.out).mono ?_
       rintro e w6 ⟨rfl, hS⟩
       have HS := LH (HS.out.trans hS)
       have HG := LH (HG.out.trans hS)
       clear hS
       cases hb : sameE v1.e v2.e
       case false =>
        have HB : Hid (false = X) := LH (by rw [HXq.out]; unfold sameA; rw [hb, Bool.and_false]; rfl)
        clear hb
        go_wp2
        go_ret
        exact ⟨ret_bool HB.out, HS.out⟩
       case true =>
       have HB : Hid (X = (sameBy sameA (sts1.drop (q + 1)) (sts2.drop (q + 1)))) := LH (by rw [HXq.out]; unfold sameA; rw [hb, decide_eq_true HF0.out]; rfl)
       clear hb
       go_wp2
       go_roundw
       case rel => exact ⟨q + 1, by go_num, by omega, HB.out, HG.out⟩
       case measure => simp [intOf]; omega
      ·obtain rfl : q = sts1.length := by omega
       rw [List.drop_eq_nil_of_le (Nat.le_refl _), List.drop_eq_nil_of_le (by rw [HLsts.out]; exact Nat.le_refl _)] at hx
       have HB : Hid (true = X) := LH (by rw [hx]; rfl)
       clear hx
       go_wp2
       go_ret
       exact ⟨ret_bool HB.out, HS.out⟩
end Go.Proofs.YtdfojghhpdkpfaaGreatDoor
