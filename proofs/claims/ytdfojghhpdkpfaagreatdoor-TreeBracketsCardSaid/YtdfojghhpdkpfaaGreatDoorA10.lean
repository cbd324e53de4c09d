/-
  Words, plain models, laws and walks that the claims of this layer share (joined by shake.py). No condition.
-/
import Derived.Lib.AppendIntMem
import Derived.Test.YtdfojghhpdkpfaaGreatDoorA9
set_option linter.unusedSimpArgs false
set_option linter.unusedVariables false
namespace Go.Proofs.YtdfojghhpdkpfaaGreatDoor
open Go.RowKit
def headM (s : Stm) : Bool := wordF s.table && (if s.filt then mayE s.cond 16 else blankE s.cond)
def badS (s : Stm) : Bool := (!decide (s.kind = 1) && (decide (0 < s.items.length) || (!decide (s.order = []) || (s.down || !decide (s.limit = 0))))) || ((!decide (s.kind = 2) && decide (0 < s.rows.length)) || (!decide (s.kind = 3) && decide (0 < s.sets.length)))
def tailM (s : Stm) : Bool := if s.kind = 1 then mayIs s.items && ((decide (s.order = []) && !s.down) || wordF s.order) && decide (-1 ≤ s.limit) else if s.kind = 2 then mayRows s.rows && !s.filt else if s.kind = 3 then maySets s.sets else decide (s.kind = 4)
theorem mayS_eq (s : Stm) : mayS s = (headM s && (!(badS s) && tailM s)) := by
  obtain ⟨kd, tb, its, rws, sts, ft, cd, od, dn, lm⟩ := s
  unfold mayS headM badS tailM
  dsimp only
  cases wordF tb <;> simp only [Bool.false_and, Bool.true_and]
  cases (if ft = true then mayE cd 16 else blankE cd) <;> simp only [Bool.false_and, Bool.true_and]
  by_cases h1 : kd = 1
  · subst h1
    cases rws <;> cases sts <;> simp
  by_cases h2 : kd = 2
  · subst h2
    cases its <;> cases sts <;> cases od <;> cases dn <;> by_cases hl : lm = 0 <;> simp [hl]
  by_cases h3 : kd = 3
  · subst h3
    cases its <;> cases rws <;> cases od <;> cases dn <;> by_cases hl : lm = 0 <;> simp [hl]
  cases its <;> cases rws <;> cases sts <;> cases od <;> cases dn <;> by_cases hl : lm = 0 <;> simp [h1, h2, h3, hl]
theorem i_lt {n : Nat} (h : 0 < n) : decide (0 < n) = true := decide_eq_true h
theorem i_nlt {n : Nat} (h : ¬ 0 < n) : decide (0 < n) = false := decide_eq_false h
theorem ne_t {a b : Int} (h : ¬ a = b) : (a != b) = true := by simpa using h
theorem ne_f {a b : Int} (h : a = b) : (a != b) = false := by subst h; simp
theorem sne_t {s x : List UInt8} (h : ¬ s = x) : (s != x) = true := by simpa using h
theorem sne_f {s x : List UInt8} (h : s = x) : (s != x) = false := by subst h; simp
set_option maxRecDepth 100000 in
set_option maxHeartbeats 16000000 in
theorem maystmt_any (s : Stm) (u : SU) (w : World) (h : StR w (fun _ => True) u s) (hm : Mx w) : Calls Tryz.prog 30 #[stV u s] w (BoolP (mayS s) w) := by
  obtain ⟨ui, ur, us, uc⟩ := u
  obtain ⟨A_u1, c_u1, q1, -⟩ := LsR.form (show LsR itCs 7 itOk _ _ ui s.items from h.1)
  subst q1
  obtain ⟨A_u2, c_u2, q2, -⟩ := LsR.form (show LsR rwCs 1 rwOk _ _ ur s.rows from h.2.1)
  subst q2
  obtain ⟨A_u3, c_u3, q3, -⟩ := LsR.form (show LsR asCs 7 asOk _ _ us s.sets from h.2.2.1)
  subst q3
  obtain ⟨A_u4, c_u4, q4, -⟩ := (show ExR _ _ uc s.cond from h.2.2.2).toL.form
  subst q4
  obtain ⟨X, hX⟩ : ∃ X, X = mayS s := ⟨_, rfl⟩
  rw [← hX]
  rw [mayS_eq] at hX
  have HX := Lib.hid hX
  have hA := (Same.refl (fun _ => True) w).alloc (.cells #[.int .i64 s.kind, .string (str s.table), .slice A_u1 s.items.length c_u1, .slice A_u2 s.rows.length c_u2, .slice A_u3 s.sets.length c_u3, .bool s.filt, .int .i64 s.cond.kind, .string (str s.cond.s), .int .i64 s.cond.v.kind, .int .i64 s.cond.v.n, .string (str s.cond.v.s), .slice A_u4 s.cond.args.length c_u4, .string (str s.order), .bool s.down, .int .i64 s.limit] 44)
  have hrow := Row.new w 44 [.int .i64 s.kind, .string (str s.table), .slice A_u1 s.items.length c_u1, .slice A_u2 s.rows.length c_u2, .slice A_u3 s.sets.length c_u3, .bool s.filt, .int .i64 s.cond.kind, .string (str s.cond.s), .int .i64 s.cond.v.kind, .int .i64 s.cond.v.n, .string (str s.cond.v.s), .slice A_u4 s.cond.args.length c_u4, .string (str s.order), .bool s.down, .int .i64 s.limit]
  have hst := stK.keep h hA
  have hm1 := hm.keep hA
  clear hX h hm
  go_enter Tryz.func30, Tryz.ntmps30
  go_upto_region 1 with (fail)
  revert hA hrow hst hm1
  generalize w.alloc _ = w1
  intro hA hrow hst hm1
  have HROW := Lib.hid hrow
  have HST := Lib.hid hst
  have HM := Lib.hid hm1
  have HS := Lib.hid hA
  have c0 := HROW.out.cell 0
  have c1 := HROW.out.cell 1
  have c2 := HROW.out.cell 2
  have c3 := HROW.out.cell 3
  have c4 := HROW.out.cell 4
  have c5 := HROW.out.cell 5
  have c6 := HROW.out.cell 6
  have c7 := HROW.out.cell 7
  have c8 := HROW.out.cell 8
  have c9 := HROW.out.cell 9
  have c10 := HROW.out.cell 10
  have c11 := HROW.out.cell 11
  have c12 := HROW.out.cell 12
  have c13 := HROW.out.cell 13
  have c14 := HROW.out.cell 14
  simp only [List.getElem?_cons_zero, List.getElem?_cons_succ] at c0 c1 c2 c3 c4 c5 c6 c7 c8 c9 c10 c11 c12 c13 c14
  clear hA hrow hst hm1
  go_cut [28] from 4 to 28 (fun v wx => ∃ (W : World) (b : Bool), W = wx ∧ v = .bool b ∧ Hid (b = !(headM s)) ∧ Row W w.heap.size 44 [.int .i64 s.kind, .string (str s.table), .slice A_u1 s.items.length c_u1, .slice A_u2 s.rows.length c_u2, .slice A_u3 s.sets.length c_u3, .bool s.filt, .int .i64 s.cond.kind, .string (str s.cond.s), .int .i64 s.cond.v.kind, .int .i64 s.cond.v.n, .string (str s.cond.v.s), .slice A_u4 s.cond.args.length c_u4, .string (str s.order), .bool s.down, .int .i64 s.limit] ∧ StR W (fun _ => True) (⟨.slice A_u1 s.items.length c_u1, .slice A_u2 s.rows.length c_u2, .slice A_u3 s.sets.length c_u3, .slice A_u4 s.cond.args.length c_u4⟩ : SU) s ∧ Mx W ∧ Same (fun _ => True) w W)
  case first =>
    go_wp2_with (go_at_call 57; refine stopAt ?_)
    unfold Hid
    refine (lexword_all (str s.table) _ HM.out rfl).mono ?_
    rintro e w9 ⟨rfl, hS⟩
    rw [show bl (str s.table) = s.table from rfl]
    have HROW := Lib.hid (HROW.out.keep hS trivial)
    have HST := Lib.hid (stK.keep HST.out hS)
    have HM := Lib.hid (HM.out.keep hS)
    have HS := Lib.hid (HS.out.trans hS)
    clear hS
    have k0 := HROW.out.cell 0
    have k1 := HROW.out.cell 1
    have k2 := HROW.out.cell 2
    have k3 := HROW.out.cell 3
    have k4 := HROW.out.cell 4
    have k5 := HROW.out.cell 5
    have k6 := HROW.out.cell 6
    have k7 := HROW.out.cell 7
    have k8 := HROW.out.cell 8
    have k9 := HROW.out.cell 9
    have k10 := HROW.out.cell 10
    have k11 := HROW.out.cell 11
    have k12 := HROW.out.cell 12
    have k13 := HROW.out.cell 13
    have k14 := HROW.out.cell 14
    simp only [List.getElem?_cons_zero, List.getElem?_cons_succ] at k0 k1 k2 k3 k4 k5 k6 k7 k8 k9 k10 k11 k12 k13 k14
    cases hw : wordF s.table
    · have HW := Lib.hid hw
      clear hw
      have HB : Hid (true = !(headM s)) := Lib.hid (by unfold headM; rw [HW.out]; rfl)
      go_wp2
      go_meet
      case rel => exact ⟨_, _, rfl, rfl, HB, HROW.out, HST.out, HM.out, HS.out⟩
    · have HW := Lib.hid hw
      clear hw
      cases hft : s.filt
      · have HFT := Lib.hid hft
        rw [hft] at k5
        clear hft
        go_wp2_with (go_at_call 59; refine stopAt ?_)
        unfold Hid
        refine (blank_any s.cond _ _ HST.out.2.2.2).mono ?_
        rintro e w9 ⟨rfl, hS⟩
        have HROW := Lib.hid (HROW.out.keep hS trivial)
        have HST := Lib.hid (stK.keep HST.out hS)
        have HM := Lib.hid (HM.out.keep hS)
        have HS := Lib.hid (HS.out.trans hS)
        clear hS
        have k0 := HROW.out.cell 0
        have k1 := HROW.out.cell 1
        have k2 := HROW.out.cell 2
        have k3 := HROW.out.cell 3
        have k4 := HROW.out.cell 4
        have k5 := HROW.out.cell 5
        have k6 := HROW.out.cell 6
        have k7 := HROW.out.cell 7
        have k8 := HROW.out.cell 8
        have k9 := HROW.out.cell 9
        have k10 := HROW.out.cell 10
        have k11 := HROW.out.cell 11
        have k12 := HROW.out.cell 12
        have k13 := HROW.out.cell 13
        have k14 := HROW.out.cell 14
        simp only [List.getElem?_cons_zero, List.getElem?_cons_succ] at k0 k1 k2 k3 k4 k5 k6 k7 k8 k9 k10 k11 k12 k13 k14
        cases hb : blankE s.cond
        · have Hb := Lib.hid hb
          clear hb
          have HB : Hid (true = !(headM s)) := Lib.hid (by unfold headM; rw [HW.out, HFT.out, Hb.out]; rfl)
          go_wp2
          go_meet
          case rel => exact ⟨_, _, rfl, rfl, HB, HROW.out, HST.out, HM.out, HS.out⟩
        · have Hb := Lib.hid hb
          clear hb
          have HB : Hid (false = !(headM s)) := Lib.hid (by unfold headM; rw [HW.out, HFT.out, Hb.out]; rfl)
          go_wp2
          go_meet
          case rel => exact ⟨_, _, rfl, rfl, HB, HROW.out, HST.out, HM.out, HS.out⟩
      · have HFT := Lib.hid hft
        rw [hft] at k5
        clear hft
        go_wp2_with (go_at_call 58; refine stopAt ?_)
        unfold Hid
        refine (mayx_any s.cond 16 _ _ (by omega) HST.out.2.2.2 HM.out).mono ?_
        rintro e w9 ⟨rfl, hS⟩
        have HROW := Lib.hid (HROW.out.keep hS trivial)
        have HST := Lib.hid (stK.keep HST.out hS)
        have HM := Lib.hid (HM.out.keep hS)
        have HS := Lib.hid (HS.out.trans hS)
        clear hS
        have k0 := HROW.out.cell 0
        have k1 := HROW.out.cell 1
        have k2 := HROW.out.cell 2
        have k3 := HROW.out.cell 3
        have k4 := HROW.out.cell 4
        have k5 := HROW.out.cell 5
        have k6 := HROW.out.cell 6
        have k7 := HROW.out.cell 7
        have k8 := HROW.out.cell 8
        have k9 := HROW.out.cell 9
        have k10 := HROW.out.cell 10
        have k11 := HROW.out.cell 11
        have k12 := HROW.out.cell 12
        have k13 := HROW.out.cell 13
        have k14 := HROW.out.cell 14
        simp only [List.getElem?_cons_zero, List.getElem?_cons_succ] at k0 k1 k2 k3 k4 k5 k6 k7 k8 k9 k10 k11 k12 k13 k14
        cases hb : mayE s.cond 16
        · have Hb := Lib.hid hb
          clear hb
          have HB : Hid (true = !(headM s)) := Lib.hid (by unfold headM; rw [HW.out, HFT.out, Hb.out]; rfl)
          go_wp2
          go_meet
          case rel => exact ⟨_, _, rfl, rfl, HB, HROW.out, HST.out, HM.out, HS.out⟩
        · have Hb := Lib.hid hb
          clear hb
          have HB : Hid (false = !(headM s)) := Lib.hid (by unfold headM; rw [HW.out, HFT.out, Hb.out]; rfl)
          go_wp2
          go_meet
          case rel => exact ⟨_, _, rfl, rfl, HB, HROW.out, HST.out, HM.out, HS.out⟩
  case rest =>
    obtain ⟨W, b, rfl, rfl, Hb, hrow, hst, hm, hs⟩ := hcut
    have HROW := Lib.hid hrow
    have HST := Lib.hid hst
    have HM := Lib.hid hm
    have HS := Lib.hid hs
    have c0 := HROW.out.cell 0
    have c1 := HROW.out.cell 1
    have c2 := HROW.out.cell 2
    have c3 := HROW.out.cell 3
    have c4 := HROW.out.cell 4
    have c5 := HROW.out.cell 5
    have c6 := HROW.out.cell 6
    have c7 := HROW.out.cell 7
    have c8 := HROW.out.cell 8
    have c9 := HROW.out.cell 9
    have c10 := HROW.out.cell 10
    have c11 := HROW.out.cell 11
    have c12 := HROW.out.cell 12
    have c13 := HROW.out.cell 13
    have c14 := HROW.out.cell 14
    simp only [List.getElem?_cons_zero, List.getElem?_cons_succ] at c0 c1 c2 c3 c4 c5 c6 c7 c8 c9 c10 c11 c12 c13 c14
    clear hrow hst hm hs
    cases b
    · have hX := HX.out
      rw [show headM s = true from by have := Hb.out; simpa using this.symm, Bool.true_and] at hX
      have HX := Lib.hid hX
      clear hX
      go_upto_region 4 with (fail)
      go_cut [0, 3, 30, 31, 75] from 32 to 75 (fun _ _ _ _ v wx => ∃ b : Bool, v = .bool b ∧ Hid (b = badS s) ∧ wx = W)
      case first =>
        by_cases hk1 : s.kind = 1
        · have ek1 := int_eq_t hk1
          by_cases hk2 : s.kind = 2
          · have ek2 := ne_f hk2
            by_cases hk3 : s.kind = 3
            · have ek3 := ne_f hk3
              have HB : Hid (false = badS s) := Lib.hid (by unfold badS; simp only [decide_eq_true hk1, decide_eq_true hk2, decide_eq_true hk3, Bool.not_true, Bool.not_false, Bool.true_and, Bool.false_and, Bool.true_or, Bool.false_or, Bool.or_true, Bool.and_true, Bool.or_false, Bool.and_false, Bool.or_self, Bool.and_self])
              clear hk1 hk2 hk3
              go_wp2
              go_meet
              case rel => exact ⟨_, rfl, HB, rfl⟩
            · have ek3 := ne_t hk3
              by_cases hst0 : 0 < s.sets.length
              · have es := i_lt hst0
                have HB : Hid (true = badS s) := Lib.hid (by unfold badS; simp only [decide_eq_true hk1, decide_eq_true hk2, decide_eq_false hk3, decide_eq_true hst0, Bool.not_true, Bool.not_false, Bool.true_and, Bool.false_and, Bool.true_or, Bool.false_or, Bool.or_true, Bool.and_true, Bool.or_false, Bool.and_false, Bool.or_self, Bool.and_self])
                clear hk1 hk2 hk3 hst0
                go_wp2
                go_meet
                case rel => exact ⟨_, rfl, HB, rfl⟩
              · have es := i_nlt hst0
                have HB : Hid (false = badS s) := Lib.hid (by unfold badS; simp only [decide_eq_true hk1, decide_eq_true hk2, decide_eq_false hk3, decide_eq_false hst0, Bool.not_true, Bool.not_false, Bool.true_and, Bool.false_and, Bool.true_or, Bool.false_or, Bool.or_true, Bool.and_true, Bool.or_false, Bool.and_false, Bool.or_self, Bool.and_self])
                clear hk1 hk2 hk3 hst0
                go_wp2
                go_meet
                case rel => exact ⟨_, rfl, HB, rfl⟩
          · have ek2 := ne_t hk2
            by_cases hrw0 : 0 < s.rows.length
            · have er := i_lt hrw0
              have HB : Hid (true = badS s) := Lib.hid (by unfold badS; simp only [decide_eq_true hk1, decide_eq_false hk2, decide_eq_true hrw0, Bool.not_true, Bool.not_false, Bool.true_and, Bool.false_and, Bool.true_or, Bool.false_or, Bool.or_true, Bool.and_true, Bool.or_false, Bool.and_false, Bool.or_self, Bool.and_self])
              clear hk1 hk2 hrw0
              go_wp2
              go_meet
              case rel => exact ⟨_, rfl, HB, rfl⟩
            · have er := i_nlt hrw0
              by_cases hk3 : s.kind = 3
              · have ek3 := ne_f hk3
                have HB : Hid (false = badS s) := Lib.hid (by unfold badS; simp only [decide_eq_true hk1, decide_eq_false hk2, decide_eq_false hrw0, decide_eq_true hk3, Bool.not_true, Bool.not_false, Bool.true_and, Bool.false_and, Bool.true_or, Bool.false_or, Bool.or_true, Bool.and_true, Bool.or_false, Bool.and_false, Bool.or_self, Bool.and_self])
                clear hk1 hk2 hrw0 hk3
                go_wp2
                go_meet
                case rel => exact ⟨_, rfl, HB, rfl⟩
              · have ek3 := ne_t hk3
                by_cases hst0 : 0 < s.sets.length
                · have es := i_lt hst0
                  have HB : Hid (true = badS s) := Lib.hid (by unfold badS; simp only [decide_eq_true hk1, decide_eq_false hk2, decide_eq_false hrw0, decide_eq_false hk3, decide_eq_true hst0, Bool.not_true, Bool.not_false, Bool.true_and, Bool.false_and, Bool.true_or, Bool.false_or, Bool.or_true, Bool.and_true, Bool.or_false, Bool.and_false, Bool.or_self, Bool.and_self])
                  clear hk1 hk2 hrw0 hk3 hst0
                  go_wp2
                  go_meet
                  case rel => exact ⟨_, rfl, HB, rfl⟩
                · have es := i_nlt hst0
                  have HB : Hid (false = badS s) := Lib.hid (by unfold badS; simp only [decide_eq_true hk1, decide_eq_false hk2, decide_eq_false hrw0, decide_eq_false hk3, decide_eq_false hst0, Bool.not_true, Bool.not_false, Bool.true_and, Bool.false_and, Bool.true_or, Bool.false_or, Bool.or_true, Bool.and_true, Bool.or_false, Bool.and_false, Bool.or_self, Bool.and_self])
                  clear hk1 hk2 hrw0 hk3 hst0
                  go_wp2
                  go_meet
                  case rel => exact ⟨_, rfl, HB, rfl⟩
        · have ek1 := int_eq_f hk1
          by_cases hit : 0 < s.items.length
          · have ei := i_lt hit
            have HB : Hid (true = badS s) := Lib.hid (by unfold badS; simp only [decide_eq_false hk1, decide_eq_true hit, Bool.not_true, Bool.not_false, Bool.true_and, Bool.false_and, Bool.true_or, Bool.false_or, Bool.or_true, Bool.and_true, Bool.or_false, Bool.and_false, Bool.or_self, Bool.and_self])
            clear hk1 hit
            go_wp2
            go_meet
            case rel => exact ⟨_, rfl, HB, rfl⟩
          · have ei := i_nlt hit
            by_cases hod : s.order = []
            · have eo := sne_f hod
              have eo2 := str_is hod
              by_cases hdn : s.down = true
              · rw [hdn] at c13
                have HB : Hid (true = badS s) := Lib.hid (by unfold badS; simp only [decide_eq_false hk1, decide_eq_false hit, hdn, Bool.not_true, Bool.not_false, Bool.true_and, Bool.false_and, Bool.true_or, Bool.false_or, Bool.or_true, Bool.and_true, Bool.or_false, Bool.and_false, Bool.or_self, Bool.and_self])
                clear hk1 hit hdn
                go_wp2
                go_meet
                case rel => exact ⟨_, rfl, HB, rfl⟩
              · rw [Bool.not_eq_true] at hdn
                rw [hdn] at c13
                by_cases hlm : s.limit = 0
                · have el := ne_f hlm
                  by_cases hk2 : s.kind = 2
                  · have ek2 := ne_f hk2
                    by_cases hk3 : s.kind = 3
                    · have ek3 := ne_f hk3
                      have HB : Hid (false = badS s) := Lib.hid (by unfold badS; simp only [decide_eq_false hk1, decide_eq_false hit, decide_eq_true hod, hdn, decide_eq_true hlm, decide_eq_true hk2, decide_eq_true hk3, Bool.not_true, Bool.not_false, Bool.true_and, Bool.false_and, Bool.true_or, Bool.false_or, Bool.or_true, Bool.and_true, Bool.or_false, Bool.and_false, Bool.or_self, Bool.and_self])
                      clear hk1 hit hod hdn hlm hk2 hk3
                      go_wp2
                      go_meet
                      case rel => exact ⟨_, rfl, HB, rfl⟩
                    · have ek3 := ne_t hk3
                      by_cases hst0 : 0 < s.sets.length
                      · have es := i_lt hst0
                        have HB : Hid (true = badS s) := Lib.hid (by unfold badS; simp only [decide_eq_false hk1, decide_eq_false hit, decide_eq_true hod, hdn, decide_eq_true hlm, decide_eq_true hk2, decide_eq_false hk3, decide_eq_true hst0, Bool.not_true, Bool.not_false, Bool.true_and, Bool.false_and, Bool.true_or, Bool.false_or, Bool.or_true, Bool.and_true, Bool.or_false, Bool.and_false, Bool.or_self, Bool.and_self])
                        clear hk1 hit hod hdn hlm hk2 hk3 hst0
                        go_wp2
                        go_meet
                        case rel => exact ⟨_, rfl, HB, rfl⟩
                      · have es := i_nlt hst0
                        have HB : Hid (false = badS s) := Lib.hid (by unfold badS; simp only [decide_eq_false hk1, decide_eq_false hit, decide_eq_true hod, hdn, decide_eq_true hlm, decide_eq_true hk2, decide_eq_false hk3, decide_eq_false hst0, Bool.not_true, Bool.not_false, Bool.true_and, Bool.false_and, Bool.true_or, Bool.false_or, Bool.or_true, Bool.and_true, Bool.or_false, Bool.and_false, Bool.or_self, Bool.and_self])
                        clear hk1 hit hod hdn hlm hk2 hk3 hst0
                        go_wp2
                        go_meet
                        case rel => exact ⟨_, rfl, HB, rfl⟩
                  · have ek2 := ne_t hk2
                    by_cases hrw0 : 0 < s.rows.length
                    · have er := i_lt hrw0
                      have HB : Hid (true = badS s) := Lib.hid (by unfold badS; simp only [decide_eq_false hk1, decide_eq_false hit, decide_eq_true hod, hdn, decide_eq_true hlm, decide_eq_false hk2, decide_eq_true hrw0, Bool.not_true, Bool.not_false, Bool.true_and, Bool.false_and, Bool.true_or, Bool.false_or, Bool.or_true, Bool.and_true, Bool.or_false, Bool.and_false, Bool.or_self, Bool.and_self])
                      clear hk1 hit hod hdn hlm hk2 hrw0
                      go_wp2
                      go_meet
                      case rel => exact ⟨_, rfl, HB, rfl⟩
                    · have er := i_nlt hrw0
                      by_cases hk3 : s.kind = 3
                      · have ek3 := ne_f hk3
                        have HB : Hid (false = badS s) := Lib.hid (by unfold badS; simp only [decide_eq_false hk1, decide_eq_false hit, decide_eq_true hod, hdn, decide_eq_true hlm, decide_eq_false hk2, decide_eq_false hrw0, decide_eq_true hk3, Bool.not_true, Bool.not_false, Bool.true_and, Bool.false_and, Bool.true_or, Bool.false_or, Bool.or_true, Bool.and_true, Bool.or_false, Bool.and_false, Bool.or_self, Bool.and_self])
                        clear hk1 hit hod hdn hlm hk2 hrw0 hk3
                        go_wp2
                        go_meet
                        case rel => exact ⟨_, rfl, HB, rfl⟩
                      · have ek3 := ne_t hk3
                        by_cases hst0 : 0 < s.sets.length
                        · have es := i_lt hst0
                          have HB : Hid (true = badS s) := Lib.hid (by unfold badS; simp only [decide_eq_false hk1, decide_eq_false hit, decide_eq_true hod, hdn, decide_eq_true hlm, decide_eq_false hk2, decide_eq_false hrw0, decide_eq_false hk3, decide_eq_true hst0, Bool.not_true, Bool.not_false, Bool.true_and, Bool.false_and, Bool.true_or, Bool.false_or, Bool.or_true, Bool.and_true, Bool.or_false, Bool.and_false, Bool.or_self, Bool.and_self])
                          clear hk1 hit hod hdn hlm hk2 hrw0 hk3 hst0
                          go_wp2
                          go_meet
                          case rel => exact ⟨_, rfl, HB, rfl⟩
                        · have es := i_nlt hst0
                          have HB : Hid (false = badS s) := Lib.hid (by unfold badS; simp only [decide_eq_false hk1, decide_eq_false hit, decide_eq_true hod, hdn, decide_eq_true hlm, decide_eq_false hk2, decide_eq_false hrw0, decide_eq_false hk3, decide_eq_false hst0, Bool.not_true, Bool.not_false, Bool.true_and, Bool.false_and, Bool.true_or, Bool.false_or, Bool.or_true, Bool.and_true, Bool.or_false, Bool.and_false, Bool.or_self, Bool.and_self])
                          clear hk1 hit hod hdn hlm hk2 hrw0 hk3 hst0
                          go_wp2
                          go_meet
                          case rel => exact ⟨_, rfl, HB, rfl⟩
                · have el := ne_t hlm
                  have HB : Hid (true = badS s) := Lib.hid (by unfold badS; simp only [decide_eq_false hk1, decide_eq_false hit, decide_eq_true hod, hdn, decide_eq_false hlm, Bool.not_true, Bool.not_false, Bool.true_and, Bool.false_and, Bool.true_or, Bool.false_or, Bool.or_true, Bool.and_true, Bool.or_false, Bool.and_false, Bool.or_self, Bool.and_self])
                  clear hk1 hit hod hdn hlm
                  go_wp2
                  go_meet
                  case rel => exact ⟨_, rfl, HB, rfl⟩
            · have eo := sne_t hod
              have eo2 := str_no hod
              have HB : Hid (true = badS s) := Lib.hid (by unfold badS; simp only [decide_eq_false hk1, decide_eq_false hit, decide_eq_false hod, Bool.not_true, Bool.not_false, Bool.true_and, Bool.false_and, Bool.true_or, Bool.false_or, Bool.or_true, Bool.and_true, Bool.or_false, Bool.and_false, Bool.or_self, Bool.and_self])
              clear hk1 hit hod
              go_wp2
              go_meet
              case rel => exact ⟨_, rfl, HB, rfl⟩
      case rest =>
        obtain ⟨b, rfl, Hb4, rfl⟩ := hcut
        cases b
        · have hX := HX.out
          rw [← Hb4.out, Bool.not_false, Bool.true_and] at hX
          unfold tailM at hX
          have HX := Lib.hid hX
          clear hX
          by_cases hk1 : s.kind = 1
          · have ek1 := int_eq_t hk1
            have hX := HX.out
            rw [if_pos hk1] at hX
            have HX := Lib.hid hX
            clear hX hk1
            go_wp2_with (go_at_call 60; refine stopAt ?_)
            unfold Hid
            refine (mayitems_any s.items _ _ HST.out.1 HM.out).mono ?_
            rintro e w9 ⟨rfl, hS⟩
            have HROW := Lib.hid (HROW.out.keep hS trivial)
            have HST := Lib.hid (stK.keep HST.out hS)
            have HM := Lib.hid (HM.out.keep hS)
            have HS := Lib.hid (HS.out.trans hS)
            clear hS
            have k0 := HROW.out.cell 0
            have k1 := HROW.out.cell 1
            have k2 := HROW.out.cell 2
            have k3 := HROW.out.cell 3
            have k4 := HROW.out.cell 4
            have k5 := HROW.out.cell 5
            have k6 := HROW.out.cell 6
            have k7 := HROW.out.cell 7
            have k8 := HROW.out.cell 8
            have k9 := HROW.out.cell 9
            have k10 := HROW.out.cell 10
            have k11 := HROW.out.cell 11
            have k12 := HROW.out.cell 12
            have k13 := HROW.out.cell 13
            have k14 := HROW.out.cell 14
            simp only [List.getElem?_cons_zero, List.getElem?_cons_succ] at k0 k1 k2 k3 k4 k5 k6 k7 k8 k9 k10 k11 k12 k13 k14
            cases hb : mayIs s.items
            · have Hb := Lib.hid hb
              clear hb
              have HB : Hid (false = X) := Lib.hid (by rw [HX.out, Hb.out]; rfl)
              go_wp2
              go_ret
              exact ⟨ret_bool HB.out, HS.out⟩
            · have Hb := Lib.hid hb
              clear hb
              have HX2 : Hid (X = (((decide (s.order = []) && !s.down) || wordF s.order) && decide (-1 ≤ s.limit))) := Lib.hid (by rw [HX.out, Hb.out]; rfl)
              by_cases hod : s.order = []
              · have eo := sne_f hod
                have eo2 := str_is hod
                by_cases hdn : s.down = true
                · rw [hdn] at k13
                  have HOD : Hid ((decide (s.order = []) && !s.down) = false) := Lib.hid (by rw [hdn]; simp)
                  rw [hod] at k12
                  have HO := Lib.hid hod
                  clear hod hdn
                  go_wp2_with (go_at_call 57; refine stopAt ?_)
                  unfold Hid
                  refine (lexword_all (str []) _ HM.out rfl).mono ?_
                  rintro e w9 ⟨rfl, hS⟩
                  rw [show wordF (bl (str [])) = wordF s.order from by rw [HO.out]; rfl]
                  have HROW := Lib.hid (HROW.out.keep hS trivial)
                  have HST := Lib.hid (stK.keep HST.out hS)
                  have HM := Lib.hid (HM.out.keep hS)
                  have HS := Lib.hid (HS.out.trans hS)
                  clear hS
                  have k0 := HROW.out.cell 0
                  have k1 := HROW.out.cell 1
                  have k2 := HROW.out.cell 2
                  have k3 := HROW.out.cell 3
                  have k4 := HROW.out.cell 4
                  have k5 := HROW.out.cell 5
                  have k6 := HROW.out.cell 6
                  have k7 := HROW.out.cell 7
                  have k8 := HROW.out.cell 8
                  have k9 := HROW.out.cell 9
                  have k10 := HROW.out.cell 10
                  have k11 := HROW.out.cell 11
                  have k12 := HROW.out.cell 12
                  have k13 := HROW.out.cell 13
                  have k14 := HROW.out.cell 14
                  simp only [List.getElem?_cons_zero, List.getElem?_cons_succ] at k0 k1 k2 k3 k4 k5 k6 k7 k8 k9 k10 k11 k12 k13 k14
                  cases hb : wordF s.order
                  · have Hb := Lib.hid hb
                    clear hb
                    have HB : Hid (false = X) := Lib.hid (by rw [HX2.out, HOD.out, Hb.out]; rfl)
                    go_wp2
                    go_ret
                    exact ⟨ret_bool HB.out, HS.out⟩
                  · have Hb := Lib.hid hb
                    clear hb
                    have HB : Hid (decide (-1 ≤ s.limit) = X) := Lib.hid (by rw [HX2.out, HOD.out, Hb.out]; simp)
                    go_wp2
                    go_ret
                    exact ⟨ret_bool HB.out, HS.out⟩
                · rw [Bool.not_eq_true] at hdn
                  rw [hdn] at k13
                  have HOD : Hid ((decide (s.order = []) && !s.down) = true) := Lib.hid (by rw [hdn, decide_eq_true hod]; rfl)
                  rw [hod] at k12
                  clear hod hdn
                  have HB : Hid (decide (-1 ≤ s.limit) = X) := Lib.hid (by rw [HX2.out]; rw [HOD.out]; simp)
                  go_wp2
                  go_ret
                  exact ⟨ret_bool HB.out, HS.out⟩
              · have eo2 := str_no hod
                have HOD : Hid ((decide (s.order = []) && !s.down) = false) := Lib.hid (by rw [decide_eq_false hod]; rfl)
                clear hod
                go_wp2_with (go_at_call 57; refine stopAt ?_)
                unfold Hid
                refine (lexword_all (str s.order) _ HM.out rfl).mono ?_
                rintro e w9 ⟨rfl, hS⟩
                rw [show bl (str s.order) = s.order from rfl]
                have HROW := Lib.hid (HROW.out.keep hS trivial)
                have HST := Lib.hid (stK.keep HST.out hS)
                have HM := Lib.hid (HM.out.keep hS)
                have HS := Lib.hid (HS.out.trans hS)
                clear hS
                have k0 := HROW.out.cell 0
                have k1 := HROW.out.cell 1
                have k2 := HROW.out.cell 2
                have k3 := HROW.out.cell 3
                have k4 := HROW.out.cell 4
                have k5 := HROW.out.cell 5
                have k6 := HROW.out.cell 6
                have k7 := HROW.out.cell 7
                have k8 := HROW.out.cell 8
                have k9 := HROW.out.cell 9
                have k10 := HROW.out.cell 10
                have k11 := HROW.out.cell 11
                have k12 := HROW.out.cell 12
                have k13 := HROW.out.cell 13
                have k14 := HROW.out.cell 14
                simp only [List.getElem?_cons_zero, List.getElem?_cons_succ] at k0 k1 k2 k3 k4 k5 k6 k7 k8 k9 k10 k11 k12 k13 k14
                cases hb : wordF s.order
                · have Hb := Lib.hid hb
                  clear hb
                  have HB : Hid (false = X) := Lib.hid (by rw [HX2.out, HOD.out, Hb.out]; rfl)
                  go_wp2
                  go_ret
                  exact ⟨ret_bool HB.out, HS.out⟩
                · have Hb := Lib.hid hb
                  clear hb
                  have HB : Hid (decide (-1 ≤ s.limit) = X) := Lib.hid (by rw [HX2.out, HOD.out, Hb.out]; simp)
                  go_wp2
                  go_ret
                  exact ⟨ret_bool HB.out, HS.out⟩
          · have ek1 := int_eq_f hk1
            have hX := HX.out
            rw [if_neg hk1] at hX
            have HX := Lib.hid hX
            clear hX hk1
            by_cases hk2 : s.kind = 2
            · have ek2 := int_eq_t hk2
              have hX := HX.out
              rw [if_pos hk2] at hX
              have HX := Lib.hid hX
              clear hX hk2
              go_wp2_with (go_at_call 61; refine stopAt ?_)
              unfold Hid
              refine (mayrows_any s.rows _ _ HST.out.2.1 HM.out).mono ?_
              rintro e w9 ⟨rfl, hS⟩
              have HROW := Lib.hid (HROW.out.keep hS trivial)
              have HST := Lib.hid (stK.keep HST.out hS)
              have HM := Lib.hid (HM.out.keep hS)
              have HS := Lib.hid (HS.out.trans hS)
              clear hS
              have k0 := HROW.out.cell 0
              have k1 := HROW.out.cell 1
              have k2 := HROW.out.cell 2
              have k3 := HROW.out.cell 3
              have k4 := HROW.out.cell 4
              have k5 := HROW.out.cell 5
              have k6 := HROW.out.cell 6
              have k7 := HROW.out.cell 7
              have k8 := HROW.out.cell 8
              have k9 := HROW.out.cell 9
              have k10 := HROW.out.cell 10
              have k11 := HROW.out.cell 11
              have k12 := HROW.out.cell 12
              have k13 := HROW.out.cell 13
              have k14 := HROW.out.cell 14
              simp only [List.getElem?_cons_zero, List.getElem?_cons_succ] at k0 k1 k2 k3 k4 k5 k6 k7 k8 k9 k10 k11 k12 k13 k14
              cases hb : mayRows s.rows
              · have Hb := Lib.hid hb
                clear hb
                have HB : Hid (false = X) := Lib.hid (by rw [HX.out, Hb.out]; rfl)
                go_wp2
                go_ret
                exact ⟨ret_bool HB.out, HS.out⟩
              · have Hb := Lib.hid hb
                clear hb
                have HB : Hid ((!s.filt) = X) := Lib.hid (by rw [HX.out, Hb.out]; rfl)
                go_wp2
                go_ret
                exact ⟨ret_bool HB.out, HS.out⟩
            · have ek2 := int_eq_f hk2
              have hX := HX.out
              rw [if_neg hk2] at hX
              have HX := Lib.hid hX
              clear hX hk2
              by_cases hk3 : s.kind = 3
              · have ek3 := int_eq_t hk3
                have hX := HX.out
                rw [if_pos hk3] at hX
                have HX := Lib.hid hX
                clear hX hk3
                go_wp2_with (go_at_call 62; refine stopAt ?_)
                unfold Hid
                refine (maysets_any s.sets _ _ HST.out.2.2.1 HM.out).mono ?_
                rintro e w9 ⟨rfl, hS⟩
                have HROW := Lib.hid (HROW.out.keep hS trivial)
                have HST := Lib.hid (stK.keep HST.out hS)
                have HM := Lib.hid (HM.out.keep hS)
                have HS := Lib.hid (HS.out.trans hS)
                clear hS
                have k0 := HROW.out.cell 0
                have k1 := HROW.out.cell 1
                have k2 := HROW.out.cell 2
                have k3 := HROW.out.cell 3
                have k4 := HROW.out.cell 4
                have k5 := HROW.out.cell 5
                have k6 := HROW.out.cell 6
                have k7 := HROW.out.cell 7
                have k8 := HROW.out.cell 8
                have k9 := HROW.out.cell 9
                have k10 := HROW.out.cell 10
                have k11 := HROW.out.cell 11
                have k12 := HROW.out.cell 12
                have k13 := HROW.out.cell 13
                have k14 := HROW.out.cell 14
                simp only [List.getElem?_cons_zero, List.getElem?_cons_succ] at k0 k1 k2 k3 k4 k5 k6 k7 k8 k9 k10 k11 k12 k13 k14
                cases hb : maySets s.sets
                · have Hb := Lib.hid hb
                  clear hb
                  have HB : Hid (false = X) := Lib.hid (by rw [HX.out, Hb.out])
                  go_wp2
                  go_ret
                  exact ⟨ret_bool HB.out, HS.out⟩
                · have Hb := Lib.hid hb
                  clear hb
                  have HB : Hid (true = X) := Lib.hid (by rw [HX.out, Hb.out])
                  go_wp2
                  go_ret
                  exact ⟨ret_bool HB.out, HS.out⟩
              · have ek3 := int_eq_f hk3
                have hX := HX.out
                rw [if_neg hk3] at hX
                have HX := Lib.hid hX
                clear hX hk3
                have HB : Hid ((s.kind == 4) = X) := Lib.hid (by rw [HX.out]; by_cases h : s.kind = 4 <;> simp [h])
                go_wp2
                go_ret
                exact ⟨ret_bool HB.out, HS.out⟩
        · have HB : Hid (false = X) := Lib.hid (by rw [HX.out, ← Hb4.out]; rfl)
          go_wp2
          go_ret
          exact ⟨ret_bool HB.out, HS.out⟩
    · have HB : Hid (false = X) := Lib.hid (by rw [HX.out, show headM s = false from by have := Hb.out; simpa using this.symm]; rfl)
      go_wp2
      go_ret
      exact ⟨ret_bool HB.out, HS.out⟩
theorem mayLot_eq (l : LotM) : mayLot l = (decide (0 ≤ l.mode) && (decide (l.mode ≤ 2) && (decide (0 ≤ l.n) && ((decide (l.mode ≠ 0) || decide (l.n = 0)) && (decide (1 ≤ l.stmts.length) && (decide (l.stmts.length ≤ 8) && l.stmts.all mayS)))))) := by
  simp only [mayLot, Bool.and_assoc]
set_option maxRecDepth 100000 in
set_option maxHeartbeats 8000000 in
theorem may_any (l : LotM) (u : Value) (w : World) (h : LtR w (fun _ => True) u l) (hm : Mx w) : Calls Tryz.prog 18 #[ltV u l] w (BoolP (mayLot l) w) := by
  obtain ⟨A, c, rfl, hc1, hc2⟩ := (show LsR stCsP 15 StR _ _ u l.stmts from h).form
  unfold maxLen at hc2
  obtain ⟨X, hX⟩ : ∃ X, X = mayLot l := ⟨_, rfl⟩
  rw [← hX]
  rw [mayLot_eq] at hX
  have HX := Lib.hid hX
  have hA := (Same.refl (fun _ => True) w).alloc (.cells #[.int .i64 l.mode, .int .i64 l.n, .slice A l.stmts.length c] 25)
  have hrow := Row.new w 25 [.int .i64 l.mode, .int .i64 l.n, .slice A l.stmts.length c]
  have hl := LsR.keepAll stK h hA
  have hm1 := hm.keep hA
  clear hX h hm
  go_enter Tryz.func18, Tryz.ntmps18
  go_upto_region 1 with (fail)
  revert hA hrow hl hm1
  generalize w.alloc _ = w1
  intro hA hrow hl hm1
  have HL := Lib.hid hl
  have HM := Lib.hid hm1
  have HS := Lib.hid hA
  have c0 := hrow.cell 0
  have c1 := hrow.cell 1
  have c2 := hrow.cell 2
  simp only [List.getElem?_cons_zero, List.getElem?_cons_succ] at c0 c1 c2
  clear hA hrow hl hm1
  by_cases h0 : 0 ≤ l.mode
  · have e0 : decide (l.mode < 0) = false := decide_eq_false (by omega)
    have hX := HX.out
    rw [decide_eq_true h0, Bool.true_and] at hX
    have HX := Lib.hid hX
    clear hX
    by_cases h1 : l.mode ≤ 2
    · have e1 : decide (2 < l.mode) = false := decide_eq_false (by omega)
      have hX := HX.out
      rw [decide_eq_true h1, Bool.true_and] at hX
      have HX := Lib.hid hX
      clear hX
      by_cases h2 : 0 ≤ l.n
      · have e2 : decide (l.n < 0) = false := decide_eq_false (by omega)
        have hX := HX.out
        rw [decide_eq_true h2, Bool.true_and] at hX
        have HX := Lib.hid hX
        clear hX
        by_cases h3 : l.mode = 0 ∧ ¬ l.n = 0
        · have e3 := int_eq_t h3.1
          have e4 := ne_t h3.2
          have HB : Hid (false = X) := Lib.hid (by rw [HX.out]; simp [h3.1, h3.2])
          clear h0 h1 h2 h3
          go_wp2
          go_ret
          exact ⟨ret_bool HB.out, HS.out⟩
        · have HX2 : Hid (X = (decide (1 ≤ l.stmts.length) && (decide (l.stmts.length ≤ 8) && l.stmts.all mayS))) := Lib.hid (by rw [HX.out]; by_cases hz : l.mode = 0 <;> by_cases hn : l.n = 0 <;> simp_all)
          have HX := HX2
          by_cases h4 : l.mode = 0
          · have e3 := int_eq_t h4
            have e4 := ne_f (show l.n = 0 from Decidable.byContradiction fun h => h3 ⟨h4, h⟩)
            clear h0 h1 h2 h3 h4
            by_cases h5 : 1 ≤ l.stmts.length
            · have e5 : ((l.stmts.length : Int) == 0) = false := no_k (show ¬ l.stmts.length = 0 by omega)
              have hX := HX.out
              rw [decide_eq_true h5, Bool.true_and] at hX
              have HX := Lib.hid hX
              clear hX
              by_cases h6 : l.stmts.length ≤ 8
              · have e6 : decide ((8 : Int) < (l.stmts.length : Int)) = false := decide_eq_false (by omega)
                have hX := HX.out
                rw [decide_eq_true h6, Bool.true_and] at hX
                have HX := Lib.hid hX
                clear hX
                clear h5 h6
                go_wp2
                go_loopw [43] (fun i wr => ∃ q : Nat, i = .int .i64 (q : Int) ∧ q ≤ l.stmts.length ∧ X = (l.stmts.drop q).all mayS ∧ Same (fun _ => True) w1 wr) (fun i _ => l.stmts.length - (intOf i).toNat)
                case atStart => exact ⟨0, rfl, Nat.zero_le _, HX.out, Same.refl _ _⟩
                case round =>
                  obtain ⟨q, rfl, hq, hx, hS⟩ := hrel
                  have x1 : (0 : Int) ≤ (q : Int) := by omega
                  have HS2 := Lib.hid hS
                  have HM2 := Lib.hid (HM.out.keep hS)
                  by_cases hql : q < l.stmts.length
                  · have x2 : (q : Int) < (l.stmts.length : Int) := by omega
                    obtain ⟨ad, u, rfl, hok, hcl⟩ := LsR.at_ (HL.out.keepAll stK hS) stCsP_len hql
                    obtain ⟨ui, ur, us, uc⟩ := u
                    obtain ⟨A_u1, c_u1, q1, -⟩ := LsR.form (show LsR itCs 7 itOk _ _ ui l.stmts[q].items from hok.1)
                    subst q1
                    obtain ⟨A_u2, c_u2, q2, -⟩ := LsR.form (show LsR rwCs 1 rwOk _ _ ur l.stmts[q].rows from hok.2.1)
                    subst q2
                    obtain ⟨A_u3, c_u3, q3, -⟩ := LsR.form (show LsR asCs 7 asOk _ _ us l.stmts[q].sets from hok.2.2.1)
                    subst q3
                    obtain ⟨A_u4, c_u4, q4, -⟩ := (show ExR _ _ uc l.stmts[q].cond from hok.2.2.2).toL.form
                    subst q4
                    have d0 := hcl 0 (by omega)
                    rw [add_zero] at d0
                    have d1 := hcl 1 (by omega)
                    rw [addr_add _ _ (by omega)] at d1
                    have d2 := hcl 2 (by omega)
                    rw [addr_add _ _ (by omega)] at d2
                    have d3 := hcl 3 (by omega)
                    rw [addr_add _ _ (by omega)] at d3
                    have d4 := hcl 4 (by omega)
                    rw [addr_add _ _ (by omega)] at d4
                    have d5 := hcl 5 (by omega)
                    rw [addr_add _ _ (by omega)] at d5
                    have d6 := hcl 6 (by omega)
                    rw [addr_add _ _ (by omega)] at d6
                    have d7 := hcl 7 (by omega)
                    rw [addr_add _ _ (by omega)] at d7
                    have d8 := hcl 8 (by omega)
                    rw [addr_add _ _ (by omega)] at d8
                    have d9 := hcl 9 (by omega)
                    rw [addr_add _ _ (by omega)] at d9
                    have d10 := hcl 10 (by omega)
                    rw [addr_add _ _ (by omega)] at d10
                    have d11 := hcl 11 (by omega)
                    rw [addr_add _ _ (by omega)] at d11
                    have d12 := hcl 12 (by omega)
                    rw [addr_add _ _ (by omega)] at d12
                    have d13 := hcl 13 (by omega)
                    rw [addr_add _ _ (by omega)] at d13
                    have d14 := hcl 14 (by omega)
                    rw [addr_add _ _ (by omega)] at d14
                    simp only [stCsP, stCs, List.getElem?_cons_zero, List.getElem?_cons_succ] at d0 d1 d2 d3 d4 d5 d6 d7 d8 d9 d10 d11 d12 d13 d14
                    have HOK := Lib.hid hok
                    have hd : l.stmts.drop q = l.stmts[q] :: l.stmts.drop (q + 1) := List.drop_eq_getElem_cons hql
                    rw [hd, List.all_cons] at hx
                    have HXq := Lib.hid hx
                    clear hx hd hok hS hcl
                    go_wp2_with (go_at_call 30; refine stopAt ?_)
                    unfold Hid
                    refine (maystmt_any l.stmts[q] _ _ (stK.keep HOK.out ((Same.refl (fun _ => True) wr).alloc _)) (HM2.out.keep ((Same.refl (fun _ => True) wr).alloc _))).mono ?_
                    rintro e w5 ⟨rfl, hS⟩
                    have HS5 := Lib.hid ((HS2.out.trans ((Same.refl (fun _ => True) wr).alloc _)).trans hS)
                    clear hS
                    cases hb : mayS l.stmts[q]
                    · have HB : Hid (false = X) := Lib.hid (by rw [HXq.out, hb]; rfl)
                      clear hb
                      go_wp2
                      go_ret
                      exact ⟨ret_bool HB.out, HS.out.trans HS5.out⟩
                    · have HXn : Hid (X = (l.stmts.drop (q + 1)).all mayS) := Lib.hid (by rw [HXq.out, hb]; rfl)
                      clear hb
                      go_wp2
                      go_roundw
                      case rel => exact ⟨q + 1, by go_num, by omega, HXn.out, HS5.out⟩
                      case measure => simp [intOf]; omega
                  · obtain rfl : q = l.stmts.length := by omega
                    rw [List.drop_length] at hx
                    have HB : Hid (true = X) := Lib.hid (by rw [hx]; rfl)
                    clear hx hS
                    go_wp2
                    go_ret
                    exact ⟨ret_bool HB.out, HS.out.trans HS2.out⟩
              · have e6 : decide ((8 : Int) < (l.stmts.length : Int)) = true := decide_eq_true (by omega)
                have HB : Hid (false = X) := Lib.hid (by rw [HX.out, decide_eq_false h6]; rfl)
                clear h5 h6
                go_wp2
                go_ret
                exact ⟨ret_bool HB.out, HS.out⟩
            · have e5 : ((l.stmts.length : Int) == 0) = true := by rw [show l.stmts.length = 0 by omega]; rfl
              have HB : Hid (false = X) := Lib.hid (by rw [HX.out, decide_eq_false h5]; rfl)
              clear h5
              go_wp2
              go_ret
              exact ⟨ret_bool HB.out, HS.out⟩
          · have e3 := int_eq_f h4
            clear h0 h1 h2 h3 h4
            by_cases h5 : 1 ≤ l.stmts.length
            · have e5 : ((l.stmts.length : Int) == 0) = false := no_k (show ¬ l.stmts.length = 0 by omega)
              have hX := HX.out
              rw [decide_eq_true h5, Bool.true_and] at hX
              have HX := Lib.hid hX
              clear hX
              by_cases h6 : l.stmts.length ≤ 8
              · have e6 : decide ((8 : Int) < (l.stmts.length : Int)) = false := decide_eq_false (by omega)
                have hX := HX.out
                rw [decide_eq_true h6, Bool.true_and] at hX
                have HX := Lib.hid hX
                clear hX
                clear h5 h6
                go_wp2
                go_loopw [43] (fun i wr => ∃ q : Nat, i = .int .i64 (q : Int) ∧ q ≤ l.stmts.length ∧ X = (l.stmts.drop q).all mayS ∧ Same (fun _ => True) w1 wr) (fun i _ => l.stmts.length - (intOf i).toNat)
                case atStart => exact ⟨0, rfl, Nat.zero_le _, HX.out, Same.refl _ _⟩
                case round =>
                  obtain ⟨q, rfl, hq, hx, hS⟩ := hrel
                  have x1 : (0 : Int) ≤ (q : Int) := by omega
                  have HS2 := Lib.hid hS
                  have HM2 := Lib.hid (HM.out.keep hS)
                  by_cases hql : q < l.stmts.length
                  · have x2 : (q : Int) < (l.stmts.length : Int) := by omega
                    obtain ⟨ad, u, rfl, hok, hcl⟩ := LsR.at_ (HL.out.keepAll stK hS) stCsP_len hql
                    obtain ⟨ui, ur, us, uc⟩ := u
                    obtain ⟨A_u1, c_u1, q1, -⟩ := LsR.form (show LsR itCs 7 itOk _ _ ui l.stmts[q].items from hok.1)
                    subst q1
                    obtain ⟨A_u2, c_u2, q2, -⟩ := LsR.form (show LsR rwCs 1 rwOk _ _ ur l.stmts[q].rows from hok.2.1)
                    subst q2
                    obtain ⟨A_u3, c_u3, q3, -⟩ := LsR.form (show LsR asCs 7 asOk _ _ us l.stmts[q].sets from hok.2.2.1)
                    subst q3
                    obtain ⟨A_u4, c_u4, q4, -⟩ := (show ExR _ _ uc l.stmts[q].cond from hok.2.2.2).toL.form
                    subst q4
                    have d0 := hcl 0 (by omega)
                    rw [add_zero] at d0
                    have d1 := hcl 1 (by omega)
                    rw [addr_add _ _ (by omega)] at d1
                    have d2 := hcl 2 (by omega)
                    rw [addr_add _ _ (by omega)] at d2
                    have d3 := hcl 3 (by omega)
                    rw [addr_add _ _ (by omega)] at d3
                    have d4 := hcl 4 (by omega)
                    rw [addr_add _ _ (by omega)] at d4
                    have d5 := hcl 5 (by omega)
                    rw [addr_add _ _ (by omega)] at d5
                    have d6 := hcl 6 (by omega)
                    rw [addr_add _ _ (by omega)] at d6
                    have d7 := hcl 7 (by omega)
                    rw [addr_add _ _ (by omega)] at d7
                    have d8 := hcl 8 (by omega)
                    rw [addr_add _ _ (by omega)] at d8
                    have d9 := hcl 9 (by omega)
                    rw [addr_add _ _ (by omega)] at d9
                    have d10 := hcl 10 (by omega)
                    rw [addr_add _ _ (by omega)] at d10
                    have d11 := hcl 11 (by omega)
                    rw [addr_add _ _ (by omega)] at d11
                    have d12 := hcl 12 (by omega)
                    rw [addr_add _ _ (by omega)] at d12
                    have d13 := hcl 13 (by omega)
                    rw [addr_add _ _ (by omega)] at d13
                    have d14 := hcl 14 (by omega)
                    rw [addr_add _ _ (by omega)] at d14
                    simp only [stCsP, stCs, List.getElem?_cons_zero, List.getElem?_cons_succ] at d0 d1 d2 d3 d4 d5 d6 d7 d8 d9 d10 d11 d12 d13 d14
                    have HOK := Lib.hid hok
                    have hd : l.stmts.drop q = l.stmts[q] :: l.stmts.drop (q + 1) := List.drop_eq_getElem_cons hql
                    rw [hd, List.all_cons] at hx
                    have HXq := Lib.hid hx
                    clear hx hd hok hS hcl
                    go_wp2_with (go_at_call 30; refine stopAt ?_)
                    unfold Hid
                    refine (maystmt_any l.stmts[q] _ _ (stK.keep HOK.out ((Same.refl (fun _ => True) wr).alloc _)) (HM2.out.keep ((Same.refl (fun _ => True) wr).alloc _))).mono ?_
                    rintro e w5 ⟨rfl, hS⟩
                    have HS5 := Lib.hid ((HS2.out.trans ((Same.refl (fun _ => True) wr).alloc _)).trans hS)
                    clear hS
                    cases hb : mayS l.stmts[q]
                    · have HB : Hid (false = X) := Lib.hid (by rw [HXq.out, hb]; rfl)
                      clear hb
                      go_wp2
                      go_ret
                      exact ⟨ret_bool HB.out, HS.out.trans HS5.out⟩
                    · have HXn : Hid (X = (l.stmts.drop (q + 1)).all mayS) := Lib.hid (by rw [HXq.out, hb]; rfl)
                      clear hb
                      go_wp2
                      go_roundw
                      case rel => exact ⟨q + 1, by go_num, by omega, HXn.out, HS5.out⟩
                      case measure => simp [intOf]; omega
                  · obtain rfl : q = l.stmts.length := by omega
                    rw [List.drop_length] at hx
                    have HB : Hid (true = X) := Lib.hid (by rw [hx]; rfl)
                    clear hx hS
                    go_wp2
                    go_ret
                    exact ⟨ret_bool HB.out, HS.out.trans HS2.out⟩
              · have e6 : decide ((8 : Int) < (l.stmts.length : Int)) = true := decide_eq_true (by omega)
                have HB : Hid (false = X) := Lib.hid (by rw [HX.out, decide_eq_false h6]; rfl)
                clear h5 h6
                go_wp2
                go_ret
                exact ⟨ret_bool HB.out, HS.out⟩
            · have e5 : ((l.stmts.length : Int) == 0) = true := by rw [show l.stmts.length = 0 by omega]; rfl
              have HB : Hid (false = X) := Lib.hid (by rw [HX.out, decide_eq_false h5]; rfl)
              clear h5
              go_wp2
              go_ret
              exact ⟨ret_bool HB.out, HS.out⟩
      · have e2 : decide (l.n < 0) = true := decide_eq_true (by omega)
        have HB : Hid (false = X) := Lib.hid (by rw [HX.out]; simp [h2])
        clear h0 h1 h2
        go_wp2
        go_ret
        exact ⟨ret_bool HB.out, HS.out⟩
    · have e1 : decide (2 < l.mode) = true := decide_eq_true (by omega)
      have HB : Hid (false = X) := Lib.hid (by rw [HX.out]; simp [h1])
      clear h0 h1
      go_wp2
      go_ret
      exact ⟨ret_bool HB.out, HS.out⟩
  · have e0 : decide (l.mode < 0) = true := decide_eq_true (by omega)
    have HB : Hid (false = X) := Lib.hid (by rw [HX.out]; simp [h0])
    clear h0
    go_wp2
    go_ret
    exact ⟨ret_bool HB.out, HS.out⟩
theorem dec_dig : ∀ (n : Nat), Lib.decDigits n = digL n := by
  intro n
  induction n using Nat.strongRecOn with
  | ind n ih =>
    unfold Lib.decDigits digL
    by_cases h : n < 10
    · rw [dif_pos h, dif_pos h]
    · rw [dif_neg h, dif_neg h, ih (n / 10) (by omega)]
theorem itoa_int (n : Int) : Lib.itoa n = intL n := by unfold Lib.itoa intL; rw [dec_dig, dec_dig]
theorem idx_cons (b : UInt8) (l : List UInt8) (c : UInt8) (h : ¬ b = c) : Lib.index (b :: l) [c] = if Lib.index l [c] == -1 then -1 else Lib.index l [c] + 1 := by
  conv => lhs; unfold Lib.index
  rw [if_neg (by simp only [List.isPrefixOf, Bool.and_true, beq_iff_eq]; exact fun e => h e.symm)]
theorem idx_hit (c : UInt8) (l : List UInt8) : Lib.index (c :: l) [c] = 0 := by
  unfold Lib.index
  rw [if_pos (by simp)]
theorem repl_cons (old : UInt8) (new : List UInt8) (k : Nat) (b : UInt8) (l : List UInt8) (h : ¬ b = old) : Lib.replaceK [old] new k (b :: l) = b :: Lib.replaceK [old] new k l := by
  cases k with
  | zero => rfl
  | succ k =>
    rw [Lib.replaceK, Lib.replaceK, idx_cons b l old h]
    have hge := Lib.index_ge l [old]
    by_cases hm : Lib.index l [old] = -1
    · rw [hm]; simp
    · obtain ⟨i, hi⟩ : ∃ i : Nat, Lib.index l [old] = i := ⟨(Lib.index l [old]).toNat, by omega⟩
      rw [hi]
      have e1 : ((i : Int) == -1) = false := beq_eq_false_iff_ne.2 (by omega)
      have e2 : ((i : Int) + 1 == -1) = false := beq_eq_false_iff_ne.2 (by omega)
      rw [e1]
      simp only [Bool.false_eq_true, if_false]
      rw [e2]
      simp only [Bool.false_eq_true, if_false]
      rw [show ((i : Int) + 1).toNat = i + 1 by omega, show (i : Int).toNat = i by omega]
      simp [List.take_succ_cons, Nat.add_right_comm, List.drop_succ_cons]
theorem repl_dbl : ∀ (s : List UInt8) (k : Nat), s.count 39 ≤ k → Lib.replaceK [39] [39, 39] k s = dbl s := by
  intro s
  induction s with
  | nil =>
    intro k _
    cases k with
    | zero => rfl
    | succ k =>
      rw [Lib.replaceK]
      simp [Lib.index, dbl]
  | cons b l ih =>
    intro k hk
    have hd : dbl (b :: l) = (if b = 39 then [39, 39] else [b]) ++ dbl l := by simp [dbl]
    rw [hd]
    by_cases hb : b = 39
    · subst hb
      rw [List.count_cons_self] at hk
      obtain ⟨k, rfl⟩ : ∃ j, k = j + 1 := ⟨k - 1, by omega⟩
      rw [Lib.replaceK_hit [39] [39, 39] k (39 :: l) 0 (idx_hit 39 l), if_pos rfl]
      rw [show (39 :: l).drop (0 + [(39 : UInt8)].length) = l by simp, ih k (by omega)]
      simp
    · rw [repl_cons _ _ _ _ _ hb, if_neg hb]
      rw [List.count_cons, if_neg (by simpa using hb)] at hk
      rw [ih k (by omega)]
      rfl
theorem replaceAll_dbl (s : List UInt8) : Lib.replaceAll s [39] [39, 39] = dbl s := by
  unfold Lib.replaceAll Lib.replace Lib.replaceNum
  rw [if_neg (by decide), if_pos (Or.inl (by decide)), Lib.count_one]
  exact repl_dbl s _ (Nat.le_refl _)
theorem add_strs (a b : List UInt8) (ha : a.length ≤ 1000000) (hb : b.length ≤ 1000000) (w : World) : (Op.stringOp .add (str a) (str b)).run Tryz.prog w = .ok (.string (str (a ++ b))) w := by
  rw [← str_app]
  exact run_string_add_sum _ _ _ (by rw [str_size, str_size]; omega)
theorem digL_len : ∀ (k n : Nat), 1 ≤ k → n < 10 ^ k → (digL n).length ≤ k := by
  intro k
  induction k with
  | zero => intro n h; omega
  | succ k ih =>
    intro n _ hn
    unfold digL
    split
    · simp
    · rename_i h
      rw [List.length_append, List.length_cons, List.length_nil]
      have hk : 1 ≤ k := by
        rcases Nat.eq_zero_or_pos k with h0 | h0
        · subst h0; simp at hn; omega
        · exact h0
      have := ih (n / 10) hk (by rw [Nat.pow_succ] at hn; omega)
      omega
theorem dbl_len (l : List UInt8) : (dbl l).length ≤ 2 * l.length := by
  induction l with
  | nil => simp [dbl]
  | cons c l ih =>
    have : dbl (c :: l) = (if c = 39 then [39, 39] else [c]) ++ dbl l := by simp [dbl]
    rw [this, List.length_append, List.length_cons]
    split <;> simp <;> omega
def ShowP (v : Val) (w : World) (e : Ending) (w' : World) : Prop := e = .returned (.string (str (showL v))) ∧ Same (fun _ => True) w w'
-- ShowRel is not wanted
/-- What Go's library asks of its own variables: the powers of ten, and some number in bytealg.MaxLen. -/
structure EnvT (w : World) : Prop where
  tab : Lib.TabIs Tryz.prog w "internal/strconv.uint64pow10" .u64 Lib.pow10Tab
  max : Mx w
theorem pow_at : Tryz.prog.globalNamed "internal/strconv.uint64pow10" = some 0 := by kernel_rfl
theorem EnvT.lt {w : World} (h : EnvT w) : 1 < w.heap.size ∧ 0 < w.heap.size := by
  refine ⟨h.max.lt, ?_⟩
  have ht := h.tab.cell pow_at 0 (by decide)
  exact World.block_lt_of_cell? w ⟨0, 0, none⟩ ht
theorem EnvT.keep {w w' : World} {S : Nat → Prop} (h : EnvT w) (hs : Same S w w') (h0 : S 1) (h1 : S 0) : EnvT w' := by
  have b1 := hs.block 0 h.lt.2 h1
  refine ⟨?_, h.max.keepS hs h0⟩
  have := h.tab
  unfold Lib.TabIs World.var? at this ⊢
  rw [pow_at] at this ⊢
  simp only [Option.bind_some] at this ⊢
  rw [b1]
  exact this
theorem EnvT.keepAll {w w' : World} (h : EnvT w) (hs : Same (fun _ => True) w w') : EnvT w' := h.keep hs trivial trivial
set_option maxRecDepth 100000 in
set_option maxHeartbeats 1000000 in
theorem show_no (v : Val) (w : World) (hm : ¬ v.May) : Calls Tryz.prog 91 #[valV v] w (ShowP v w) := by
  have hmv : mayV v = false := by rw [Bool.eq_false_iff]; intro h; exact hm ((mayV_iff v).1 h)
  have hsh : showL v = [] := by unfold showL; rw [if_neg hm]
  unfold ShowP
  rw [hsh]
  clear hsh hm
  have hMay := fun W => exMay_any v W
  unfold BoolP at hMay
  rw [hmv] at hMay
  clear hmv
  go_enter Tryz.func91, Tryz.ntmps91
  go_wp2_with (go_at_call 100; refine stopAt ?_)
  unfold Hid
  refine (hMay _).mono ?_
  rintro e w1 ⟨rfl, hS⟩
  have hrow := (Row.new w 31 (valCs v)).keep hS trivial
  obtain ⟨c0, c1, c2, -, -, -⟩ := val_cells hrow
  have hlb := hrow.lt
  have hsm := ((Same.refl (fun _ => True) w).alloc (.cells (valCs v).toArray 31)).trans hS
  have HS := Lib.hid hsm
  try dsimp only at c0 c1 c2
  clear hS hrow hsm
  go_wp2
  go_ret
  exact ⟨rfl, HS.out⟩
set_option maxRecDepth 100000 in
set_option maxHeartbeats 1000000 in
theorem show_null (w : World) : Calls Tryz.prog 91 #[valV ⟨0, 0, []⟩] w (ShowP ⟨0, 0, []⟩ w) := by
  have hmv : mayV ⟨0, 0, []⟩ = true := by decide
  have hsh : showL ⟨0, 0, []⟩ = [78, 85, 76, 76] := by unfold showL; rw [if_pos (by decide)]; rfl
  unfold ShowP
  rw [hsh]
  clear hsh
  have hMay := fun W => exMay_any ⟨0, 0, []⟩ W
  unfold BoolP at hMay
  rw [hmv] at hMay
  clear hmv
  go_enter Tryz.func91, Tryz.ntmps91
  go_wp2_with (go_at_call 100; refine stopAt ?_)
  unfold Hid
  refine (hMay _).mono ?_
  rintro e w1 ⟨rfl, hS⟩
  have hrow := (Row.new w 31 (valCs ⟨0, 0, []⟩)).keep hS trivial
  obtain ⟨c0, c1, c2, -, -, -⟩ := val_cells hrow
  have hlb := hrow.lt
  have hsm := ((Same.refl (fun _ => True) w).alloc (.cells (valCs ⟨0, 0, []⟩).toArray 31)).trans hS
  have HS := Lib.hid hsm
  try dsimp only at c0 c1 c2
  clear hS hrow hsm
  go_wp2
  go_ret
  exact ⟨rfl, HS.out⟩
set_option maxRecDepth 100000 in
set_option maxHeartbeats 1000000 in
theorem show_true (w : World) : Calls Tryz.prog 91 #[valV ⟨1, 1, []⟩] w (ShowP ⟨1, 1, []⟩ w) := by
  have hmv : mayV ⟨1, 1, []⟩ = true := by decide
  have hsh : showL ⟨1, 1, []⟩ = [84, 82, 85, 69] := by unfold showL; rw [if_pos (by decide)]; rfl
  unfold ShowP
  rw [hsh]
  clear hsh
  have hMay := fun W => exMay_any ⟨1, 1, []⟩ W
  unfold BoolP at hMay
  rw [hmv] at hMay
  clear hmv
  go_enter Tryz.func91, Tryz.ntmps91
  go_wp2_with (go_at_call 100; refine stopAt ?_)
  unfold Hid
  refine (hMay _).mono ?_
  rintro e w1 ⟨rfl, hS⟩
  have hrow := (Row.new w 31 (valCs ⟨1, 1, []⟩)).keep hS trivial
  obtain ⟨c0, c1, c2, -, -, -⟩ := val_cells hrow
  have hlb := hrow.lt
  have hsm := ((Same.refl (fun _ => True) w).alloc (.cells (valCs ⟨1, 1, []⟩).toArray 31)).trans hS
  have HS := Lib.hid hsm
  try dsimp only at c0 c1 c2
  clear hS hrow hsm
  go_wp2
  go_ret
  exact ⟨rfl, HS.out⟩
set_option maxRecDepth 100000 in
set_option maxHeartbeats 1000000 in
theorem show_false (w : World) : Calls Tryz.prog 91 #[valV ⟨1, 0, []⟩] w (ShowP ⟨1, 0, []⟩ w) := by
  have hmv : mayV ⟨1, 0, []⟩ = true := by decide
  have hsh : showL ⟨1, 0, []⟩ = [70, 65, 76, 83, 69] := by unfold showL; rw [if_pos (by decide)]; rfl
  unfold ShowP
  rw [hsh]
  clear hsh
  have hMay := fun W => exMay_any ⟨1, 0, []⟩ W
  unfold BoolP at hMay
  rw [hmv] at hMay
  clear hmv
  go_enter Tryz.func91, Tryz.ntmps91
  go_wp2_with (go_at_call 100; refine stopAt ?_)
  unfold Hid
  refine (hMay _).mono ?_
  rintro e w1 ⟨rfl, hS⟩
  have hrow := (Row.new w 31 (valCs ⟨1, 0, []⟩)).keep hS trivial
  obtain ⟨c0, c1, c2, -, -, -⟩ := val_cells hrow
  have hlb := hrow.lt
  have hsm := ((Same.refl (fun _ => True) w).alloc (.cells (valCs ⟨1, 0, []⟩).toArray 31)).trans hS
  have HS := Lib.hid hsm
  try dsimp only at c0 c1 c2
  clear hS hrow hsm
  go_wp2
  go_ret
  exact ⟨rfl, HS.out⟩
set_option maxRecDepth 100000 in
set_option maxHeartbeats 1000000 in
theorem show_int (n : Int) (w : World) (hn : I64 n) (hE : EnvT w) : Calls Tryz.prog 91 #[valV ⟨2, n, []⟩] w (ShowP ⟨2, n, []⟩ w) := by
  have hmv : mayV ⟨2, n, []⟩ = true := by unfold mayV; simp
  have hsh : showL ⟨2, n, []⟩ = intL n := by unfold showL Val.May; simp
  unfold ShowP
  rw [hsh]
  clear hsh
  have hMay := fun W => exMay_any ⟨2, n, []⟩ W
  unfold BoolP at hMay
  rw [hmv] at hMay
  clear hmv
  go_enter Tryz.func91, Tryz.ntmps91
  go_wp2_with (go_at_call 100; refine stopAt ?_)
  unfold Hid
  refine (hMay _).mono ?_
  rintro e w1 ⟨rfl, hS⟩
  have hrow := (Row.new w 31 (valCs ⟨2, n, []⟩)).keep hS trivial
  obtain ⟨c0, c1, c2, -, -, -⟩ := val_cells hrow
  have hlb := hrow.lt
  have hsm := ((Same.refl (fun _ => True) w).alloc (.cells (valCs ⟨2, n, []⟩).toArray 31)).trans hS
  have HS := Lib.hid hsm
  try dsimp only at c0 c1 c2
  have hEw := hE.keepAll hsm
  have hfi := Tryz.strconv_FormatInt_10 n hn.1 hn.2 w1 hEw.tab
  rw [itoa_int] at hfi
  clear hS hrow hsm hE hEw
  go_wp2_with (go_at_call 27; refine stopAt ?_)
  unfold Hid
  refine hfi.mono ?_
  rintro e w2 ⟨rfl, kk, os, rfl⟩
  have hs2 : Same (fun _ => True) w1 (Sort.grow (w1.drewN kk) os) := (Same.ofBelow (Lib.below_grow w1.heap.size w1 (Nat.le_refl _) kk os)).mono fun i hi _ => hi
  have HS2 := Lib.hid (HS.out.trans hs2)
  clear hs2 hfi
  go_wp2
  go_ret
  exact ⟨rfl, HS2.out⟩
set_option maxRecDepth 100000 in
set_option maxHeartbeats 1000000 in
theorem show_text (s : List UInt8) (w : World) (hs : s.length ≤ 64) (hE : EnvT w) : Calls Tryz.prog 91 #[valV ⟨3, 0, s⟩] w (ShowP ⟨3, 0, s⟩ w) := by
  have hmv : mayV ⟨3, 0, s⟩ = true := by unfold mayV; simp [hs]
  have hsh : showL ⟨3, 0, s⟩ = 39 :: dbl s ++ [39] := by unfold showL Val.May; simp [hs]
  have hdl := dbl_len s
  have hrd := replaceAll_dbl s
  unfold ShowP
  rw [hsh]
  obtain ⟨D, hD⟩ : ∃ D, D = dbl s := ⟨_, rfl⟩
  rw [← hD] at hdl hrd ⊢
  clear hsh hD
  rw [show 39 :: D ++ [39] = 39 :: (D ++ [39]) from rfl]
  have hMay := fun W => exMay_any ⟨3, 0, s⟩ W
  unfold BoolP at hMay
  rw [hmv] at hMay
  clear hmv
  go_enter Tryz.func91, Tryz.ntmps91
  go_wp2_with (go_at_call 100; refine stopAt ?_)
  unfold Hid
  refine (hMay _).mono ?_
  rintro e w1 ⟨rfl, hS⟩
  have hrow := (Row.new w 31 (valCs ⟨3, 0, s⟩)).keep hS trivial
  obtain ⟨c0, c1, c2, -, -, -⟩ := val_cells hrow
  have hlb := hrow.lt
  have hsm := ((Same.refl (fun _ => True) w).alloc (.cells (valCs ⟨3, 0, s⟩).toArray 31)).trans hS
  have HS := Lib.hid hsm
  try dsimp only at c0 c1 c2
  have hEw := hE.keepAll hsm
  obtain ⟨m, hmx⟩ := hEw.max
  have hcb := Lib.countB_le ⟨#[39]⟩ (by decide) _ (str s) (Nat.le_refl _)
  have hra := Tryz.strings_ReplaceAll (str s) ⟨#[39]⟩ ⟨#[39, 39]⟩ m w1 (by rw [str_size]; omega) hmx (by decide) (by
    rw [str_size] at hcb ⊢
    have : (⟨#[39, 39]⟩ : ByteArray).size = 2 := rfl
    rw [this]; omega)
  rw [show (str s).data.toList = s from rfl, show (⟨#[39]⟩ : ByteArray).data.toList = [39] from rfl, show (⟨#[39, 39]⟩ : ByteArray).data.toList = [39, 39] from rfl, hrd] at hra
  have hra : Calls Tryz.prog 115 #[.string (str s), .string ⟨#[39]⟩, .string ⟨#[39, 39]⟩] w1 fun e w' => e = .returned (.string (str D)) ∧ Below w1.heap.size w1 w' := hra
  have a1 : ∀ w, (Op.stringOp .add ⟨#[39]⟩ (str D)).run Tryz.prog w = .ok (.string (str (39 :: D))) w := fun w => add_strs [39] D (by simp) (by omega) w
  have a2 : ∀ w, (Op.stringOp .add (str (39 :: D)) ⟨#[39]⟩).run Tryz.prog w = .ok (.string (str (39 :: (D ++ [39])))) w := fun w => add_strs (39 :: D) [39] (by simp; omega) (by simp) w
  clear hS hrow hsm hE hEw hcb hmx hs hdl hrd
  go_wp2_with (go_at_call 115; refine stopAt ?_)
  unfold Hid
  refine hra.mono ?_
  rintro e w2 ⟨rfl, hbl⟩
  have hs2 : Same (fun _ => True) w1 w2 := (Same.ofBelow hbl).mono fun i hi _ => hi
  have HS2 := Lib.hid (HS.out.trans hs2)
  clear hs2 hra hbl
  go_wp2
  go_ret
  exact ⟨rfl, HS2.out⟩
theorem show_any (v : Val) (w : World) (hn : I64 v.n) (hE : EnvT w) : Calls Tryz.prog 91 #[valV v] w (ShowP v w) := by
  by_cases hm : v.May
  · obtain ⟨k, n, s⟩ := v
    rcases id hm with ⟨h1, h2, h3⟩ | ⟨h1, h2, h3⟩ | ⟨h1, h3⟩ | ⟨h1, h2, h3⟩
    · dsimp only at h1 h2 h3; subst h1 h2 h3; exact show_null w
    · dsimp only at h1 h2 h3; subst h1 h3
      rcases h2 with h2 | h2
      · subst h2; exact show_false w
      · subst h2; exact show_true w
    · dsimp only at h1 h3; subst h1 h3; exact show_int n w hn hE
    · dsimp only at h1 h2 h3; subst h1 h2; exact show_text s w h3 hE
  · exact show_no v w hm
theorem args_two {s : List UInt8} (h : argsN s = 2) : s = wOR ∨ s = wAND ∨ s = [61] ∨ s = [60, 62] ∨ s = [60] ∨ s = [60, 61] ∨ s = [62] ∨ s = [62, 61] ∨ s = [43] ∨ s = [45] ∨ s = [42] ∨ s = [47] ∨ s = [37] := by
  unfold argsN at h
  split at h
  · exact absurd h (by decide)
  · split at h
    · assumption
    · exact absurd h (by decide)
theorem args_one {s : List UInt8} (h : argsN s = 1) : s = wNOT ∨ s = wISNULL ∨ s = wNOTNULL ∨ s = wNEG := by
  unfold argsN at h
  split at h
  · assumption
  · split at h <;> exact absurd h (by decide)
theorem args_range (s : List UInt8) : argsN s = 1 ∨ argsN s = 2 ∨ argsN s = -1 := by
  unfold argsN
  split
  · exact .inl rfl
  · split
    · exact .inr (.inl rfl)
    · exact .inr (.inr rfl)
theorem args_ne {s t : List UInt8} (h : argsN s = 2) (ht : argsN t = 1) : ¬ s = t := by
  rintro rfl
  omega
theorem mayEs_mem : ∀ {l : List Ex} {n : Nat}, mayEs l n = true → ∀ a ∈ l, mayE a n = true
  | [], n, _, a, ha => by simp at ha
  | b :: l, n, h, a, ha => by
    rw [mayEs, Bool.and_eq_true] at h
    rcases List.mem_cons.1 ha with rfl | ha
    · exact h.1
    · exact mayEs_mem h.2 a ha
theorem sameEs_of {l : List Ex} (h : ∀ a ∈ l, ∀ b, sameE a b = true ↔ a = b) : ∀ l', sameEs l l' = true ↔ l = l' := by
  induction l with
  | nil => intro l'; cases l' <;> simp [sameEs]
  | cons a l ih =>
    intro l'
    cases l' with
    | nil => simp [sameEs]
    | cons b l' =>
      rw [sameEs, Bool.and_eq_true, h a (by simp) b, ih (fun c hc => h c (by simp [hc])) l']
      simp
theorem sameE_iff : ∀ a b : Ex, sameE a b = true ↔ a = b := by
  apply Ex.ind
  intro k s v l ih b
  obtain ⟨k', s', v', l'⟩ := b
  rw [sameE, Bool.and_eq_true, Bool.and_eq_true, Bool.and_eq_true, sameEs_of ih l', decide_eq_true_eq, decide_eq_true_eq, decide_eq_true_eq]
  constructor
  · rintro ⟨⟨⟨rfl, rfl⟩, rfl⟩, rfl⟩; rfl
  · intro h; injection h with h1 h2 h3 h4; exact ⟨⟨⟨h1, h2⟩, h3⟩, h4⟩
theorem sameEs_iff (l l' : List Ex) : sameEs l l' = true ↔ l = l' := sameEs_of (fun a _ b => sameE_iff a b) l'
theorem sameBy_iff {α : Type} {f : α → α → Bool} (h : ∀ a b, f a b = true ↔ a = b) : ∀ l l' : List α, sameBy f l l' = true ↔ l = l'
  | [], [] => by simp [sameBy]
  | [], b :: l' => by simp [sameBy]
  | a :: l, [] => by simp [sameBy]
  | a :: l, b :: l' => by rw [sameBy, Bool.and_eq_true, h, sameBy_iff h l l']; simp
theorem sameI_iff (x y : Itm) : sameI x y = true ↔ x = y := by
  obtain ⟨a, b⟩ := x; obtain ⟨c, d⟩ := y
  simp [sameI, sameE_iff]
theorem sameA_iff (x y : Asn) : sameA x y = true ↔ x = y := by
  obtain ⟨a, b⟩ := x; obtain ⟨c, d⟩ := y
  simp [sameA, sameE_iff]
theorem sameS_iff (x y : Stm) : sameS x y = true ↔ x = y := by
  obtain ⟨a, b, c, d, e, f, g, h, i, j⟩ := x; obtain ⟨a', b', c', d', e', f', g', h', i', j'⟩ := y
  simp only [sameS, Bool.and_eq_true, sameE_iff, sameBy_iff sameI_iff, sameBy_iff sameEs_iff, sameBy_iff sameA_iff, decide_eq_true_eq]
  constructor
  · rintro ⟨⟨⟨⟨⟨⟨⟨⟨⟨rfl, rfl⟩, rfl⟩, rfl⟩, rfl⟩, rfl⟩, rfl⟩, rfl⟩, rfl⟩, rfl⟩; rfl
  · intro h; injection h with h1 h2 h3 h4 h5 h6 h7 h8 h9 h10; exact ⟨⟨⟨⟨⟨⟨⟨⟨⟨h1, h2⟩, h6⟩, h8⟩, h9⟩, h10⟩, h7⟩, h3⟩, h4⟩, h5⟩
theorem sameLot_iff (x y : LotM) : sameLot x y = true ↔ x = y := by
  obtain ⟨a, b, c⟩ := x; obtain ⟨a', b', c'⟩ := y
  simp only [sameLot, Bool.and_eq_true, sameBy_iff sameS_iff, decide_eq_true_eq]
  constructor
  · rintro ⟨⟨rfl, rfl⟩, rfl⟩; rfl
  · intro h; injection h with h1 h2 h3; exact ⟨⟨h1, h2⟩, h3⟩
/-- What may follow a statement's parts. -/
def Fol (t : Tok) : Prop := t = tW wORDER ∨ t = tW wLIMIT ∨ t = tS [59] ∨ t = tW wAS ∨ t = tE
/-- What may follow a statement. -/
def Fin' (t : Tok) : Prop := t = tS [59] ∨ t = tW wAS ∨ t = tE
theorem Fol.of {p : Tok → Bool} (h : p (tW wORDER) = true ∧ p (tW wLIMIT) = true ∧ p (tS [59]) = true ∧ p (tW wAS) = true ∧ p tE = true) {t : Tok} (ht : Fol t) : p t = true := by
  rcases ht with rfl | rfl | rfl | rfl | rfl
  · exact h.1
  · exact h.2.1
  · exact h.2.2.1
  · exact h.2.2.2.1
  · exact h.2.2.2.2
theorem Fin'.of {p : Tok → Bool} (h : p (tS [59]) = true ∧ p (tW wAS) = true ∧ p tE = true) {t : Tok} (ht : Fin' t) : p t = true := by
  rcases ht with rfl | rfl | rfl
  · exact h.1
  · exact h.2.1
  · exact h.2.2
/-- Letters outside quotes made small, blanks made wide, where f says so; and whether a quote is open behind it. -/
def caseT : (Nat → Bool) → Bool → List UInt8 → List UInt8 × Bool
  | _, q, [] => ([], q)
  | f, q, c :: l =>
    let q' := if c = 39 then !q else q
    let r := caseT (fun i => f (i + 1)) q' l
    ((if (!q' && f 0) = true ∧ 65 ≤ c ∧ c ≤ 90 then c + 32 else c) :: (if (!q' && f 0) = true ∧ c = 32 then [10, 9] else []) ++ r.1, r.2)
/-- The tokens of a text, without their places. -/
def lx (s : List UInt8) : Option (List Tok) := if (lexFrom 0 s).1 = 0 then some ((lexFrom 0 s).2.map (·.2)) else none
def Brk (c : List UInt8) : Prop := c = [] ∨ ∃ x r, c = x :: r ∧ (x = 32 ∨ x = 41 ∨ x = 44 ∨ x = 59)
/-- These tokens stand in it, whatever follows that ends a token. -/
def Lx (s : List UInt8) (ts : List Tok) : Prop := ∀ f, (caseT f false s).2 = false ∧ ∀ c, Brk c → lx ((caseT f false s).1 ++ c) = (lx c).map (ts ++ ·)
theorem map_nil_app (x : Option (List Tok)) : x.map (([] : List Tok) ++ ·) = x := by cases x <;> rfl
section
variable {s s' : List UInt8} {ts ts' : List Tok}
theorem caseT_head {x : UInt8} (hx : x = 32 ∨ x = 41 ∨ x = 44 ∨ x = 59) (f : Nat → Bool) (t : List UInt8) : ∃ t', (caseT f false (x :: t)).1 = x :: t' := by
  have hn : ∀ p : Prop, ¬ (p ∧ 65 ≤ x ∧ x ≤ 90) := by
    rintro p ⟨_, a, _⟩
    rcases hx with rfl | rfl | rfl | rfl <;> exact absurd a (by decide)
  simp only [caseT]
  rw [if_neg (hn _)]
  exact ⟨_, rfl⟩
theorem Brk.case {c : List UInt8} (h : Brk c) (f : Nat → Bool) (r : List UInt8) (hr : Brk r) : Brk ((caseT f false c).1 ++ r) := by
  rcases h with rfl | ⟨x, t, rfl, hx⟩
  · exact hr
  · obtain ⟨t', e⟩ := caseT_head hx f t
    exact .inr ⟨x, t' ++ r, by rw [e]; rfl, hx⟩
theorem Lx.nil : Lx [] [] := fun f => ⟨rfl, fun c _ => (map_nil_app _).symm⟩
end
def i64B (n : Int) : Bool := decide (-9223372036854775808 ≤ n) && decide (n ≤ 9223372036854775807)
inductive ExI : Ex → Prop where
  | mk {k : Int} {s : List UInt8} {v : Val} {l : List Ex} (h : i64B v.n = true) (hl : ∀ a ∈ l, ExI a) : ExI (.mk k s v l)
theorem ExI.val {e : Ex} (h : ExI e) : i64B e.v.n = true := by cases h with | mk h _ => exact h
theorem ExI.arg {e : Ex} (h : ExI e) : ∀ a ∈ e.args, ExI a := by cases h with | mk _ h => exact h
theorem ExI.zero : ExI .zero := .mk (by decide) (fun a h => by cases h)
section
variable {s s' : List UInt8} {ts ts' : List Tok}
end
theorem showOp_two {s : List UInt8} {v : Val} (h : argsN s = 2) (a b : List UInt8) : showOp 3 s v [a, b] = 40 :: a ++ 32 :: s ++ 32 :: b ++ [41] := by
  unfold showOp
  rw [if_neg (by omega), if_neg (by omega)]
  dsimp only
  rw [if_neg (args_ne h (by decide)), if_neg (args_ne h (by decide)), if_neg (args_ne h (by decide)), if_neg (args_ne h (by decide))]
structure StI (s : Stm) : Prop where
  items : ∀ x ∈ s.items, ExI x.e
  rows : ∀ r ∈ s.rows, ∀ e ∈ r, ExI e
  sets : ∀ x ∈ s.sets, ExI x.e
  cond : ExI s.cond
  limit : i64B s.limit = true
structure LotI (l : LotM) : Prop where
  n : i64B l.n = true
  stmts : ∀ s ∈ l.stmts, StI s
theorem add_str (a b : List UInt8) (h : a.length + b.length ≤ 1000000000000) (w : World) : (Op.stringOp .add (str a) (str b)).run Tryz.prog w = .ok (.string (str (a ++ b))) w := by
  rw [← str_app]
  exact run_string_add_sum _ _ _ (by rw [str_size, str_size]; omega)
theorem i64_I {n : Int} (h : i64B n = true) : I64 n := by simpa [i64B, I64] using h
theorem showV_len {v : Val} (h : mayV v = true) (hI : i64B v.n = true) : (showL v).length ≤ 200 := by
  unfold showL
  rw [if_pos ((mayV_iff v).1 h)]
  have hI := i64_I hI
  split
  · split <;> simp [wTRUE, wFALSE]
  · split
    · unfold intL
      unfold I64 at hI
      split
      · have := digL_len 19 v.n.natAbs (by omega) (by omega)
        simp; omega
      · have := digL_len 19 v.n.toNat (by omega) (by omega)
        omega
    · split
      · rename_i h3
        rcases (mayV_iff v).1 h with ⟨k, _⟩ | ⟨k, _⟩ | ⟨k, _⟩ | ⟨k, _, hs⟩
        · omega
        · omega
        · omega
        · have := dbl_len v.s
          simp; omega
      · simp [wNULL]
theorem args_len {s : List UInt8} (h : argsN s = 2) : s.length ≤ 3 := by
  rcases args_two h with rfl | rfl | rfl | rfl | rfl | rfl | rfl | rfl | rfl | rfl | rfl | rfl | rfl <;> decide
theorem word_len {s : List UInt8} (h : wordF s = true) : s.length ≤ 16 := by
  simp only [wordF, Bool.and_eq_true, decide_eq_true_eq] at h
  exact h.1.1
/-- How long a written expression may be. -/
theorem showE_len : ∀ e : Ex, ∀ d, mayE e d = true → ExI e → (showE e).length + 200 ≤ 200 * 2 ^ d := by
  apply Ex.ind
  intro k s v l ih d h hI
  rw [mayE] at h
  by_cases h0 : d = 0
  · rw [if_pos h0] at h; cases h
  rw [if_neg h0] at h
  obtain ⟨d, rfl⟩ : ∃ d', d = d' + 1 := ⟨d - 1, by omega⟩
  have hp : 200 * 2 ^ (d + 1) = 200 * 2 ^ d + 200 * 2 ^ d := by rw [Nat.pow_succ]; omega
  have h1 : 1 ≤ 2 ^ d := Nat.one_le_two_pow
  rw [hp]
  by_cases h1 : k = 1
  · subst h1
    simp only [if_true, Bool.and_eq_true, decide_eq_true_eq] at h
    obtain ⟨⟨⟨rfl, h2⟩, h3⟩, h4⟩ := h
    have e : showE (.mk 1 [] v l) = showL v := rfl
    have := showV_len h3 hI.val
    rw [e]
    omega
  rw [if_neg h1] at h
  by_cases h2 : k = 2
  · subst h2
    simp only [if_true, Bool.and_eq_true, decide_eq_true_eq] at h
    obtain ⟨⟨rfl, h2⟩, h3⟩ := h
    have e : showE (.mk 2 s .zero l) = s := rfl
    have := word_len h3
    rw [e]
    omega
  rw [if_neg h2] at h
  simp only [Bool.and_eq_true, decide_eq_true_eq] at h
  obtain ⟨⟨⟨rfl, rfl⟩, h3⟩, h4⟩ := h
  rw [Nat.add_sub_cancel] at h4
  have hm := mayEs_mem h4
  rcases args_range s with hs | hs | hs
  · obtain ⟨a, rfl⟩ : ∃ a, l = [a] := by
      match l, h3 with
      | [a], _ => exact ⟨a, rfl⟩
      | [], h3 => simp at h3; omega
      | a :: b :: r, h3 => simp at h3; omega
    have ha := ih a (by simp) d (hm a (by simp)) (hI.arg a (by simp [Ex.args]))
    rcases args_one hs with rfl | rfl | rfl | rfl
    · have e1 : showE (.mk 3 wNOT .zero [a]) = [40, 78, 79, 84, 32] ++ showE a ++ [41] := rfl
      rw [e1]; simp; omega
    · have e1 : showE (.mk 3 wISNULL .zero [a]) = 40 :: showE a ++ [32, 73, 83, 32, 78, 85, 76, 76, 41] := rfl
      rw [e1]; simp; omega
    · have e1 : showE (.mk 3 wNOTNULL .zero [a]) = 40 :: showE a ++ [32, 73, 83, 32, 78, 79, 84, 32, 78, 85, 76, 76, 41] := rfl
      rw [e1]; simp; omega
    · have e1 : showE (.mk 3 wNEG .zero [a]) = [40, 45, 32] ++ showE a ++ [41] := rfl
      rw [e1]; simp; omega
  · obtain ⟨a, b, rfl⟩ : ∃ a b, l = [a, b] := by
      match l, h3 with
      | [a, b], _ => exact ⟨a, b, rfl⟩
      | [], h3 => simp at h3; omega
      | [a], h3 => simp at h3; omega
      | a :: b :: c :: r, h3 => simp at h3; omega
    have ha := ih a (by simp) d (hm a (by simp)) (hI.arg a (by simp [Ex.args]))
    have hb := ih b (by simp) d (hm b (by simp)) (hI.arg b (by simp [Ex.args]))
    have e1 : showE (.mk 3 s .zero [a, b]) = 40 :: showE a ++ 32 :: s ++ 32 :: showE b ++ [41] := showOp_two hs _ _
    have := args_len hs
    rw [e1]; simp; omega
  · rw [hs] at h3; omega
theorem showE_most {e : Ex} {d : Nat} (h : mayE e d = true) (hd : d ≤ 16) (hI : ExI e) : (showE e).length ≤ 13107200 := by
  have := showE_len e d h hI
  have h2 : 200 * 2 ^ d ≤ 200 * 2 ^ 16 := Nat.mul_le_mul_left _ (Nat.pow_le_pow_right (by omega) hd)
  have h3 : 200 * 2 ^ 16 = 13107200 := by decide
  omega
def TextP (s : List UInt8) (w : World) (e : Ending) (w' : World) : Prop := e = .returned (.string (str s)) ∧ Same (fun _ => True) w w'
theorem ret_str {a b : List UInt8} (h : a = b) : Ending.returned (.string (str a)) = .returned (.string (str b)) := by rw [h]
set_option maxRecDepth 100000 in
set_option maxHeartbeats 8000000 in
theorem text_any : ∀ (e : Ex) (d : Nat) (u : Value) (w : World), d ≤ 16 → mayE e d = true → ExI e → ExR w (fun _ => True) u e → EnvT w → Calls Tryz.prog 47 #[exV u e] w (TextP (showE e) w) := by
  apply Ex.ind
  intro k s v l ih d u w hd h hI hr hE
  obtain ⟨A, c, rfl, hc1, hc2⟩ := hr.toL.form
  have hl : ExL w (fun _ => True) (.slice A l.length c) l := hr.toL
  show Calls Tryz.prog 47 #[.agg #[.int .i64 k, .string (str s), .int .i64 v.kind, .int .i64 v.n, .string (str v.s), .slice A l.length c]] w (TextP (showE (.mk k s v l)) w)
  obtain ⟨X, hX⟩ : ∃ X, X = showE (.mk k s v l) := ⟨_, rfl⟩
  rw [← hX]
  have HX := Lib.hid hX
  have hA := (Same.refl (fun _ => True) w).alloc (.cells #[.int .i64 k, .string (str s), .int .i64 v.kind, .int .i64 v.n, .string (str v.s), .slice A l.length c] 34)
  have hrow := Row.new w 34 [.int .i64 k, .string (str s), .int .i64 v.kind, .int .i64 v.n, .string (str v.s), .slice A l.length c]
  have hl1 := hl.keepAll hA
  have hE1 := hE.keepAll hA
  clear hX hr hE hl
  rw [mayE] at h
  by_cases h0 : d = 0
  · rw [if_pos h0] at h; cases h
  rw [if_neg h0] at h
  go_enter Tryz.func47, Tryz.ntmps47
  go_upto_region 1 with (fail)
  revert hA hrow hl1 hE1
  generalize w.alloc _ = w1
  intro hA hrow hl1 hE1
  have HS := Lib.hid hA
  have HE := Lib.hid hE1
  have c0 := hrow.cell 0
  have c1 := hrow.cell 1
  have c2 := hrow.cell 2
  have c3 := hrow.cell 3
  have c4 := hrow.cell 4
  have c5 := hrow.cell 5
  simp only [List.getElem?_cons_zero, List.getElem?_cons_succ] at c0 c1 c2 c3 c4 c5
  clear hA hrow hE1
  by_cases h1 : k = 1
  · have e1 : (k == 1) = true := by rw [h1]; rfl
    rw [if_pos h1] at h
    simp only [Bool.and_eq_true, decide_eq_true_eq] at h
    obtain ⟨⟨⟨-, -⟩, h3⟩, h4⟩ := h
    have HB : Hid (showL v = X) := Lib.hid (by rw [HX.out, h1]; rfl)
    have hsh := show_any v w1 (i64_I hI.val) HE.out
    clear h1 h3 h4 hl1
    go_wp2_with (go_at_call 91; refine stopAt ?_)
    unfold Hid
    refine hsh.mono ?_
    rintro e w2 ⟨rfl, hS⟩
    have HS := Lib.hid (HS.out.trans hS)
    clear hS hsh
    go_wp2
    go_ret
    exact ⟨ret_str HB.out, HS.out⟩
  have e1 : (k == 1) = false := by simpa using h1
  rw [if_neg h1] at h
  by_cases h2 : k = 2
  · have e2 : (k == 2) = true := by rw [h2]; rfl
    have HB : Hid (s = X) := Lib.hid (by rw [HX.out, h2]; rfl)
    clear h1 h2 hl1 h
    go_wp2
    go_ret
    exact ⟨ret_str HB.out, HS.out⟩
  have e2 : (k == 2) = false := by simpa using h2
  rw [if_neg h2] at h
  simp only [Bool.and_eq_true, decide_eq_true_eq] at h
  obtain ⟨⟨⟨h3, rfl⟩, h4⟩, h5⟩ := h
  have hm := mayEs_mem h5
  have HK := Lib.hid h3
  clear h1 h2 h3 h5
  rcases args_range s with hs | hs | hs
  · obtain ⟨a, rfl⟩ : ∃ a, l = [a] := by
      match l, h4 with
      | [a], _ => exact ⟨a, rfl⟩
      | [], h3 => simp at h3; omega
      | a :: b :: r, h3 => simp at h3; omega
    have ha := hm a (by simp)
    have hIa := hI.arg a (by simp [Ex.args])
    have hlen := showE_most ha (by omega) hIa
    obtain ⟨ad, ua, rfl, -, hla, d0, d1, d2, d3, d4, d5⟩ := ExL.cells (i := 0) hl1 (by simp)
    obtain ⟨Aa, ca, rfl, -, -⟩ := hla.form
    simp only [List.getElem_cons_zero, Nat.zero_mul, add_zero] at d0 d1 d2 d3 d4 d5 hla
    have hia := ih a (by simp) (d - 1) (.slice Aa a.args.length ca) w1 (by omega) ha hIa ((ExR.iff _ _).2 hla) HE.out
    have HX1 : Hid (X = showE (.mk 3 s .zero [a])) := Lib.hid (by rw [HX.out, HK.out])
    obtain ⟨D, hD⟩ : ∃ D, D = showE a := ⟨_, rfl⟩
    rw [← hD] at hia hlen
    have HD := Lib.hid hD
    have z0 : (0 : Int) < ((1 : Nat) : Int) := by omega
    clear hm hI h4 hl1 hla ha hIa hD
    change w1.cell? ⟨w.heap.size, 5, none⟩ = some (.slice (some ad) 1 c) at c5
    rcases args_one hs with rfl | rfl | rfl | rfl
    · have HB : Hid ([40, 78, 79, 84, 32] ++ D ++ [41] = X) := Lib.hid (by rw [HX1.out, HD.out]; rfl)
      have a1 : ∀ w, (Op.stringOp .add ⟨#[40, 78, 79, 84, 32]⟩ (str D)).run Tryz.prog w = .ok (.string (str ([40, 78, 79, 84, 32] ++ D))) w := fun w => add_str [40, 78, 79, 84, 32] D (by simp; omega) w
      have a2 : ∀ w, (Op.stringOp .add (str ([40, 78, 79, 84, 32] ++ D)) ⟨#[41]⟩).run Tryz.prog w = .ok (.string (str ([40, 78, 79, 84, 32] ++ D ++ [41]))) w := fun w => add_str ([40, 78, 79, 84, 32] ++ D) [41] (by simp; omega) w
      simp only [wNOT] at c1
      generalize hY : [40, 78, 79, 84, 32] ++ D = Y at a1 a2 HB
      clear hY hs hlen
      go_wp2_with (go_at_call 47; refine stopAt ?_)
      unfold Hid
      refine hia.mono ?_
      rintro e w2 ⟨rfl, hS⟩
      have HS := Lib.hid (HS.out.trans hS)
      clear hS hia
      go_wp2
      go_ret
      exact ⟨ret_str HB.out, HS.out⟩
    · have HB : Hid ([40] ++ D ++ [32, 73, 83, 32, 78, 85, 76, 76, 41] = X) := Lib.hid (by rw [HX1.out, HD.out]; rfl)
      have a1 : ∀ w, (Op.stringOp .add ⟨#[40]⟩ (str D)).run Tryz.prog w = .ok (.string (str ([40] ++ D))) w := fun w => add_str [40] D (by simp; omega) w
      have a2 : ∀ w, (Op.stringOp .add (str ([40] ++ D)) ⟨#[32, 73, 83, 32, 78, 85, 76, 76, 41]⟩).run Tryz.prog w = .ok (.string (str ([40] ++ D ++ [32, 73, 83, 32, 78, 85, 76, 76, 41]))) w := fun w => add_str ([40] ++ D) [32, 73, 83, 32, 78, 85, 76, 76, 41] (by simp; omega) w
      simp only [wISNULL] at c1
      generalize hY : [40] ++ D = Y at a1 a2 HB
      clear hY hs hlen
      go_wp2_with (go_at_call 47; refine stopAt ?_)
      unfold Hid
      refine hia.mono ?_
      rintro e w2 ⟨rfl, hS⟩
      have HS := Lib.hid (HS.out.trans hS)
      clear hS hia
      go_wp2
      go_ret
      exact ⟨ret_str HB.out, HS.out⟩
    · have HB : Hid ([40] ++ D ++ [32, 73, 83, 32, 78, 79, 84, 32, 78, 85, 76, 76, 41] = X) := Lib.hid (by rw [HX1.out, HD.out]; rfl)
      have a1 : ∀ w, (Op.stringOp .add ⟨#[40]⟩ (str D)).run Tryz.prog w = .ok (.string (str ([40] ++ D))) w := fun w => add_str [40] D (by simp; omega) w
      have a2 : ∀ w, (Op.stringOp .add (str ([40] ++ D)) ⟨#[32, 73, 83, 32, 78, 79, 84, 32, 78, 85, 76, 76, 41]⟩).run Tryz.prog w = .ok (.string (str ([40] ++ D ++ [32, 73, 83, 32, 78, 79, 84, 32, 78, 85, 76, 76, 41]))) w := fun w => add_str ([40] ++ D) [32, 73, 83, 32, 78, 79, 84, 32, 78, 85, 76, 76, 41] (by simp; omega) w
      simp only [wNOTNULL] at c1
      generalize hY : [40] ++ D = Y at a1 a2 HB
      clear hY hs hlen
      go_wp2_with (go_at_call 47; refine stopAt ?_)
      unfold Hid
      refine hia.mono ?_
      rintro e w2 ⟨rfl, hS⟩
      have HS := Lib.hid (HS.out.trans hS)
      clear hS hia
      go_wp2
      go_ret
      exact ⟨ret_str HB.out, HS.out⟩
    · have HB : Hid ([40, 45, 32] ++ D ++ [41] = X) := Lib.hid (by rw [HX1.out, HD.out]; rfl)
      have a1 : ∀ w, (Op.stringOp .add ⟨#[40, 45, 32]⟩ (str D)).run Tryz.prog w = .ok (.string (str ([40, 45, 32] ++ D))) w := fun w => add_str [40, 45, 32] D (by simp; omega) w
      have a2 : ∀ w, (Op.stringOp .add (str ([40, 45, 32] ++ D)) ⟨#[41]⟩).run Tryz.prog w = .ok (.string (str ([40, 45, 32] ++ D ++ [41]))) w := fun w => add_str ([40, 45, 32] ++ D) [41] (by simp; omega) w
      simp only [wNEG] at c1
      generalize hY : [40, 45, 32] ++ D = Y at a1 a2 HB
      clear hY hs hlen
      go_wp2_with (go_at_call 47; refine stopAt ?_)
      unfold Hid
      refine hia.mono ?_
      rintro e w2 ⟨rfl, hS⟩
      have HS := Lib.hid (HS.out.trans hS)
      clear hS hia
      go_wp2
      go_ret
      exact ⟨ret_str HB.out, HS.out⟩
  · obtain ⟨a, b, rfl⟩ : ∃ a b, l = [a, b] := by
      match l, h4 with
      | [a, b], _ => exact ⟨a, b, rfl⟩
      | [], h3 => simp at h3; omega
      | [a], h3 => simp at h3; omega
      | a :: b :: c :: r, h3 => simp at h3; omega
    have ha := hm a (by simp)
    have hb := hm b (by simp)
    have hIa := hI.arg a (by simp [Ex.args])
    have hIb := hI.arg b (by simp [Ex.args])
    have hlen := showE_most ha (by omega) hIa
    have hlen2 := showE_most hb (by omega) hIb
    have hlen3 := args_len hs
    obtain ⟨ad, ua, hA1, -, hla, d0, d1, d2, d3, d4, d5⟩ := ExL.cells (i := 0) hl1 (by simp)
    obtain ⟨ad', ub, hA2, -, hlb, g0, g1, g2, g3, g4, g5⟩ := ExL.cells (i := 1) hl1 (by simp)
    subst hA1
    injection hA2 with hA2
    subst hA2
    obtain ⟨Aa, ca, rfl, -, -⟩ := hla.form
    obtain ⟨Ab, cb, rfl, -, -⟩ := hlb.form
    simp only [List.getElem_cons_zero, List.getElem_cons_succ, Nat.zero_mul, Nat.one_mul, add_zero] at d0 d1 d2 d3 d4 d5 g0 g1 g2 g3 g4 g5 hla hlb
    rw [show ad.add 6 = ⟨ad.block, ad.off + 6, none⟩ from addr_add _ _ (by omega)] at g0 g1 g2 g3 g4 g5
    dsimp only at g0 g1 g2 g3 g4 g5
    have gA : ∀ W, Same (fun _ => True) w1 W → Calls Tryz.prog 47 #[exV (.slice Aa a.args.length ca) a] W (TextP (showE a) W) := fun W hs => ih a (by simp) (d - 1) (.slice Aa a.args.length ca) W (by omega) ha hIa ((ExR.iff _ _).2 (hla.keepAll hs)) (HE.out.keepAll hs)
    have gB : ∀ W, Same (fun _ => True) w1 W → Calls Tryz.prog 47 #[exV (.slice Ab b.args.length cb) b] W (TextP (showE b) W) := fun W hs => ih b (by simp) (d - 1) (.slice Ab b.args.length cb) W (by omega) hb hIb ((ExR.iff _ _).2 (hlb.keepAll hs)) (HE.out.keepAll hs)
    have HX1 : Hid (X = 40 :: showE a ++ 32 :: s ++ 32 :: showE b ++ [41]) := Lib.hid (by rw [HX.out, HK.out]; exact showOp_two hs _ _)
    have n1 := str_no (args_ne hs (show argsN wISNULL = 1 from by decide))
    have n2 := str_no (args_ne hs (show argsN wNOTNULL = 1 from by decide))
    have n3 := str_no (args_ne hs (show argsN wNOT = 1 from by decide))
    have n4 := str_no (args_ne hs (show argsN wNEG = 1 from by decide))
    have m1 := args_ne hs (show argsN wISNULL = 1 from by decide)
    have m2 := args_ne hs (show argsN wNOTNULL = 1 from by decide)
    have m3 := args_ne hs (show argsN wNOT = 1 from by decide)
    have m4 := args_ne hs (show argsN wNEG = 1 from by decide)
    simp only [wISNULL, wNOTNULL, wNOT, wNEG] at n1 n2 n3 n4 m1 m2 m3 m4
    obtain ⟨DA, hDA⟩ : ∃ D, D = showE a := ⟨_, rfl⟩
    obtain ⟨DB, hDB⟩ : ∃ D, D = showE b := ⟨_, rfl⟩
    rw [← hDA] at gA hlen
    rw [← hDB] at gB hlen2
    have HD := Lib.hid hDA
    have HD2 := Lib.hid hDB
    have z0 : (0 : Int) < ((2 : Nat) : Int) := by omega
    have z1 : (1 : Int) < ((2 : Nat) : Int) := by omega
    clear hm hI h4 hl1 hla hlb ha hb hIa hIb hDA hDB
    change w1.cell? ⟨w.heap.size, 5, none⟩ = some (.slice (some ad) 2 c) at c5
    obtain ⟨Y1, hY1⟩ : ∃ Y, Y = [40] ++ DA := ⟨_, rfl⟩
    obtain ⟨Y2, hY2⟩ : ∃ Y, Y = Y1 ++ [32] := ⟨_, rfl⟩
    obtain ⟨Y3, hY3⟩ : ∃ Y, Y = Y2 ++ s := ⟨_, rfl⟩
    obtain ⟨Y4, hY4⟩ : ∃ Y, Y = Y3 ++ [32] := ⟨_, rfl⟩
    obtain ⟨Y5, hY5⟩ : ∃ Y, Y = Y4 ++ DB := ⟨_, rfl⟩
    obtain ⟨Y6, hY6⟩ : ∃ Y, Y = Y5 ++ [41] := ⟨_, rfl⟩
    have l1 : Y1.length = DA.length + 1 := by rw [hY1, List.length_append, List.length_singleton]; omega
    have l2 : Y2.length = Y1.length + 1 := by rw [hY2]; simp
    have l3 : Y3.length = Y2.length + s.length := by rw [hY3]; simp
    have l4 : Y4.length = Y3.length + 1 := by rw [hY4]; simp
    have l5 : Y5.length = Y4.length + DB.length := by rw [hY5]; simp
    have a1 : ∀ w, (Op.stringOp .add ⟨#[40]⟩ (str DA)).run Tryz.prog w = .ok (.string (str Y1)) w := fun w => hY1 ▸ add_str [40] DA (by simp; omega) w
    have a2 : ∀ w, (Op.stringOp .add (str Y1) ⟨#[32]⟩).run Tryz.prog w = .ok (.string (str Y2)) w := fun w => hY2 ▸ add_str Y1 [32] (by simp; omega) w
    have a3 : ∀ w, (Op.stringOp .add (str Y2) (str s)).run Tryz.prog w = .ok (.string (str Y3)) w := fun w => hY3 ▸ add_str Y2 s (by omega) w
    have a4 : ∀ w, (Op.stringOp .add (str Y3) ⟨#[32]⟩).run Tryz.prog w = .ok (.string (str Y4)) w := fun w => hY4 ▸ add_str Y3 [32] (by simp; omega) w
    have a5 : ∀ w, (Op.stringOp .add (str Y4) (str DB)).run Tryz.prog w = .ok (.string (str Y5)) w := fun w => hY5 ▸ add_str Y4 DB (by omega) w
    have a6 : ∀ w, (Op.stringOp .add (str Y5) ⟨#[41]⟩).run Tryz.prog w = .ok (.string (str Y6)) w := fun w => hY6 ▸ add_str Y5 [41] (by simp; omega) w
    have HB : Hid (Y6 = X) := Lib.hid (by rw [HX1.out, hY6, hY5, hY4, hY3, hY2, hY1, HD.out, HD2.out]; simp)
    clear l1 l2 l3 l4 l5 hlen hlen2 hlen3 hY1 hY2 hY3 hY4 hY5 hY6 hs
    go_upto_region 13 with (fail)
    refine wp_region_eq_lit (vs := [(.pointer (some ⟨w.heap.size, 5, none⟩)), (.slice (some ad) 2 c), (.pointer (some ad)), (exV (.slice Aa a.args.length ca) a), (.string (str DA)), (.string (str Y1)), (.string (str Y2)), (.pointer (some ⟨w.heap.size, 1, none⟩)), (.string (str s)), (.string (str Y3)), (.string (str Y4)), (.pointer (some ⟨w.heap.size, 5, none⟩)), (.slice (some ad) 2 c), (.pointer (some ⟨ad.block, ad.off + 6, none⟩)), (exV (.slice Ab b.args.length cb) b), (.string (str DB)), (.string (str Y5)), (.string (str Y6)), (.string (str Y6))]) (by kernel_rfl) (by kernel_rfl) rfl rfl ?_ ?_
    · refine ⟨?_, ?_, ?_, ?_, ?_, ?_, ?_, ?_, ?_, ?_, ?_, ?_, ?_, ?_, ?_, ?_, ?_, ?_, ?_, trivial⟩
      · intro ac wc hs hd hz hf hw K hK
        have e0 : ac.eval (.tmp 1) = (.pointer (some ⟨w.heap.size, 0, none⟩)) := hf 1 rfl
        clear hd hz hf hw
        simp only [Region.wanted, if_true, Oper.wp, execOp, resolve, List.map_toArray, List.map_cons, List.map_nil, Option.map_some, Option.map_none, e0]
        go_simp
        exact hK _ _ rfl (Same.refl _ _)
      · intro ac wc hs hd hz hf hw K hK
        have e0 : ac.eval (.tmp 60) = (.pointer (some ⟨w.heap.size, 5, none⟩)) := hw 0 rfl
        have m0 : wc.cell? ⟨w.heap.size, 5, none⟩ = some (.slice (some ad) 2 c) := hs.cell (p := ⟨w.heap.size, 5, none⟩) trivial c5
        clear hd hz hf hw
        simp only [Region.wanted, if_true, Oper.wp, execOp, resolve, List.map_toArray, List.map_cons, List.map_nil, Option.map_some, Option.map_none, e0]
        go_simp
        exact hK _ _ rfl (Same.refl _ _)
      · intro ac wc hs hd hz hf hw K hK
        have e0 : ac.eval (.tmp 61) = (.slice (some ad) 2 c) := hw 1 rfl
        clear hd hz hf hw
        simp only [Region.wanted, if_true, Oper.wp, execOp, resolve, List.map_toArray, List.map_cons, List.map_nil, Option.map_some, Option.map_none, e0]
        go_simp
        exact hK _ _ rfl (Same.refl _ _)
      · intro ac wc hs hd hz hf hw K hK
        have e0 : ac.eval (.tmp 62) = (.pointer (some ad)) := hw 2 rfl
        have m0 : wc.cell? ad = some (.int .i64 a.kind) := hs.cell (p := ad) trivial d0
        have m1 : wc.cell? ⟨ad.block, ad.off + 1, none⟩ = some (.string (str a.s)) := hs.cell (p := ⟨ad.block, ad.off + 1, none⟩) trivial d1
        have m2 : wc.cell? ⟨ad.block, ad.off + 2, none⟩ = some (.int .i64 a.v.kind) := hs.cell (p := ⟨ad.block, ad.off + 2, none⟩) trivial d2
        have m3 : wc.cell? ⟨ad.block, ad.off + 3, none⟩ = some (.int .i64 a.v.n) := hs.cell (p := ⟨ad.block, ad.off + 3, none⟩) trivial d3
        have m4 : wc.cell? ⟨ad.block, ad.off + 4, none⟩ = some (.string (str a.v.s)) := hs.cell (p := ⟨ad.block, ad.off + 4, none⟩) trivial d4
        have m5 : wc.cell? ⟨ad.block, ad.off + 5, none⟩ = some (.slice Aa a.args.length ca) := hs.cell (p := ⟨ad.block, ad.off + 5, none⟩) trivial d5
        clear hd hz hf hw
        simp only [Region.wanted, if_true, Oper.wp, execOp, resolve, List.map_toArray, List.map_cons, List.map_nil, Option.map_some, Option.map_none, e0]
        go_simp
        exact hK _ _ rfl (Same.refl _ _)
      · intro ac wc hs hd hz hf hw K hK
        have e0 : ac.eval (.tmp 63) = (exV (.slice Aa a.args.length ca) a) := hw 3 rfl
        clear hd hz hf hw
        simp only [Region.wanted, if_true, Oper.wp, execOp, resolve, List.map_toArray, List.map_cons, List.map_nil, Option.map_some, Option.map_none, e0]
        go_simp
        refine (gA _ hs).mono ?_
        rintro e wd ⟨rfl, hsd⟩
        exact hK _ _ rfl hsd
      · intro ac wc hs hd hz hf hw K hK
        have e0 : ac.eval (.tmp 64) = (.string (str DA)) := hw 4 rfl
        clear hd hz hf hw
        simp only [Region.wanted, if_true, Oper.wp, execOp, resolve, List.map_toArray, List.map_cons, List.map_nil, Option.map_some, Option.map_none, e0]
        go_simp
        exact hK _ _ rfl (Same.refl _ _)
      · intro ac wc hs hd hz hf hw K hK
        have e0 : ac.eval (.tmp 65) = (.string (str Y1)) := hw 5 rfl
        clear hd hz hf hw
        simp only [Region.wanted, if_true, Oper.wp, execOp, resolve, List.map_toArray, List.map_cons, List.map_nil, Option.map_some, Option.map_none, e0]
        go_simp
        exact hK _ _ rfl (Same.refl _ _)
      · intro ac wc hs hd hz hf hw K hK
        have e0 : ac.eval (.tmp 1) = (.pointer (some ⟨w.heap.size, 0, none⟩)) := hf 1 rfl
        clear hd hz hf hw
        simp only [Region.wanted, if_true, Oper.wp, execOp, resolve, List.map_toArray, List.map_cons, List.map_nil, Option.map_some, Option.map_none, e0]
        go_simp
        exact hK _ _ rfl (Same.refl _ _)
      · intro ac wc hs hd hz hf hw K hK
        have e0 : ac.eval (.tmp 67) = (.pointer (some ⟨w.heap.size, 1, none⟩)) := hw 7 rfl
        have m0 : wc.cell? ⟨w.heap.size, 1, none⟩ = some (.string (str s)) := hs.cell (p := ⟨w.heap.size, 1, none⟩) trivial c1
        clear hd hz hf hw
        simp only [Region.wanted, if_true, Oper.wp, execOp, resolve, List.map_toArray, List.map_cons, List.map_nil, Option.map_some, Option.map_none, e0]
        go_simp
        exact hK _ _ rfl (Same.refl _ _)
      · intro ac wc hs hd hz hf hw K hK
        have e0 : ac.eval (.tmp 66) = (.string (str Y2)) := hw 6 rfl
        have e1 : ac.eval (.tmp 68) = (.string (str s)) := hw 8 rfl
        clear hd hz hf hw
        simp only [Region.wanted, if_true, Oper.wp, execOp, resolve, List.map_toArray, List.map_cons, List.map_nil, Option.map_some, Option.map_none, e0, e1]
        go_simp
        exact hK _ _ rfl (Same.refl _ _)
      · intro ac wc hs hd hz hf hw K hK
        have e0 : ac.eval (.tmp 69) = (.string (str Y3)) := hw 9 rfl
        clear hd hz hf hw
        simp only [Region.wanted, if_true, Oper.wp, execOp, resolve, List.map_toArray, List.map_cons, List.map_nil, Option.map_some, Option.map_none, e0]
        go_simp
        exact hK _ _ rfl (Same.refl _ _)
      · intro ac wc hs hd hz hf hw K hK
        have e0 : ac.eval (.tmp 1) = (.pointer (some ⟨w.heap.size, 0, none⟩)) := hf 1 rfl
        clear hd hz hf hw
        simp only [Region.wanted, if_true, Oper.wp, execOp, resolve, List.map_toArray, List.map_cons, List.map_nil, Option.map_some, Option.map_none, e0]
        go_simp
        exact hK _ _ rfl (Same.refl _ _)
      · intro ac wc hs hd hz hf hw K hK
        have e0 : ac.eval (.tmp 71) = (.pointer (some ⟨w.heap.size, 5, none⟩)) := hw 11 rfl
        have m0 : wc.cell? ⟨w.heap.size, 5, none⟩ = some (.slice (some ad) 2 c) := hs.cell (p := ⟨w.heap.size, 5, none⟩) trivial c5
        clear hd hz hf hw
        simp only [Region.wanted, if_true, Oper.wp, execOp, resolve, List.map_toArray, List.map_cons, List.map_nil, Option.map_some, Option.map_none, e0]
        go_simp
        exact hK _ _ rfl (Same.refl _ _)
      · intro ac wc hs hd hz hf hw K hK
        have e0 : ac.eval (.tmp 72) = (.slice (some ad) 2 c) := hw 12 rfl
        clear hd hz hf hw
        simp only [Region.wanted, if_true, Oper.wp, execOp, resolve, List.map_toArray, List.map_cons, List.map_nil, Option.map_some, Option.map_none, e0]
        go_simp
        exact hK _ _ rfl (Same.refl _ _)
      · intro ac wc hs hd hz hf hw K hK
        have e0 : ac.eval (.tmp 73) = (.pointer (some ⟨ad.block, ad.off + 6, none⟩)) := hw 13 rfl
        have m0 : wc.cell? ⟨ad.block, ad.off + 6, none⟩ = some (.int .i64 b.kind) := hs.cell (p := ⟨ad.block, ad.off + 6, none⟩) trivial g0
        have m1 : wc.cell? ⟨ad.block, ad.off + 6 + 1, none⟩ = some (.string (str b.s)) := hs.cell (p := ⟨ad.block, ad.off + 6 + 1, none⟩) trivial g1
        have m2 : wc.cell? ⟨ad.block, ad.off + 6 + 2, none⟩ = some (.int .i64 b.v.kind) := hs.cell (p := ⟨ad.block, ad.off + 6 + 2, none⟩) trivial g2
        have m3 : wc.cell? ⟨ad.block, ad.off + 6 + 3, none⟩ = some (.int .i64 b.v.n) := hs.cell (p := ⟨ad.block, ad.off + 6 + 3, none⟩) trivial g3
        have m4 : wc.cell? ⟨ad.block, ad.off + 6 + 4, none⟩ = some (.string (str b.v.s)) := hs.cell (p := ⟨ad.block, ad.off + 6 + 4, none⟩) trivial g4
        have m5 : wc.cell? ⟨ad.block, ad.off + 6 + 5, none⟩ = some (.slice Ab b.args.length cb) := hs.cell (p := ⟨ad.block, ad.off + 6 + 5, none⟩) trivial g5
        clear hd hz hf hw
        simp only [Region.wanted, if_true, Oper.wp, execOp, resolve, List.map_toArray, List.map_cons, List.map_nil, Option.map_some, Option.map_none, e0]
        go_simp
        exact hK _ _ rfl (Same.refl _ _)
      · intro ac wc hs hd hz hf hw K hK
        have e0 : ac.eval (.tmp 74) = (exV (.slice Ab b.args.length cb) b) := hw 14 rfl
        clear hd hz hf hw
        simp only [Region.wanted, if_true, Oper.wp, execOp, resolve, List.map_toArray, List.map_cons, List.map_nil, Option.map_some, Option.map_none, e0]
        go_simp
        refine (gB _ hs).mono ?_
        rintro e wd ⟨rfl, hsd⟩
        exact hK _ _ rfl hsd
      · intro ac wc hs hd hz hf hw K hK
        have e0 : ac.eval (.tmp 70) = (.string (str Y4)) := hw 10 rfl
        have e1 : ac.eval (.tmp 75) = (.string (str DB)) := hw 15 rfl
        clear hd hz hf hw
        simp only [Region.wanted, if_true, Oper.wp, execOp, resolve, List.map_toArray, List.map_cons, List.map_nil, Option.map_some, Option.map_none, e0, e1]
        go_simp
        exact hK _ _ rfl (Same.refl _ _)
      · intro ac wc hs hd hz hf hw K hK
        have e0 : ac.eval (.tmp 76) = (.string (str Y5)) := hw 16 rfl
        clear hd hz hf hw
        simp only [Region.wanted, if_true, Oper.wp, execOp, resolve, List.map_toArray, List.map_cons, List.map_nil, Option.map_some, Option.map_none, e0]
        go_simp
        exact hK _ _ rfl (Same.refl _ _)
      · intro ac wc hs hd hz hf hw K hK
        have e0 : ac.eval (.tmp 77) = (.string (str Y6)) := hw 17 rfl
        clear hd hz hf hw
        simp only [Region.wanted, if_true, Oper.wp, execOp, resolve, List.map_toArray, List.map_cons, List.map_nil, Option.map_some, Option.map_none, e0]
        go_simp
        exact hK _ _ rfl (Same.refl _ _)
    · intro wR hsR
      simp only [putAll, Act.put, List.setIfInBounds_toArray, List.set_cons_succ, List.set_cons_zero]
      have HS := Lib.hid (HS.out.trans hsR)
      clear hsR
      go_wp2
      go_ret
      exact ⟨ret_str HB.out, HS.out⟩
  · rw [hs] at h4; omega
end Go.Proofs.YtdfojghhpdkpfaaGreatDoor
