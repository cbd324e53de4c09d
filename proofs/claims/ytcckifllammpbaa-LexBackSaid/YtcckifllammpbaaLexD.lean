/-
  The walks of names: lex.Word.
-/
import Derived.Test.YtcckifllammpbaaLexF
import Derived.Test.YtcckifllammpbaaLexG
import Derived.Test.YtcckifllammpbaaShelf
import Derived.HandedShaped
set_option linter.unusedSimpArgs false
set_option linter.unusedVariables false
namespace Go.Proofs.Ytcckifllammpbaa
open Go.RowKit Go.ChangeShapes Go.WideShapes Go.ChangeAt

/-- What the library's variable holds: some number. -/
def Mx (w : World) : Prop := ∃ m : Int, w.cell? ⟨0, 0, none⟩ = some (.int .i64 m)
theorem Mx.keep {w w' : World} (h : Mx w) (hs : Same (fun _ => True) w w') : Mx w' := by
  obtain ⟨m, hm⟩ := h
  exact ⟨m, hs.cell (p := ⟨0, 0, none⟩) trivial hm⟩
theorem Mx.of {w : World} (h : w.ShapedOpen Try.prog) : Mx w := Try.laysM144.s1_3 w h
theorem contains_any (c : ByteArray) (s : List UInt8) (w : World) (hc : bl c = joinW resW) (hs : noBl s = true) (hm : Mx w) :
    Calls Try.prog 41 #[.string c, .string (str (32 :: s ++ [32]))] w fun e w' => e = .returned (.bool (resW.contains s)) ∧ w = w' := by
  obtain ⟨m, hm⟩ := hm
  refine (Try.strings_Contains c (str (32 :: s ++ [32])) m w ?_ hm).mono ?_
  · have : c.size = (bl c).length := (bl_len c).symm
    rw [this, hc]
    decide +kernel
  · rintro e w' ⟨rfl, rfl⟩
    refine ⟨?_, rfl⟩
    have := contains_words s hs resW resW_all
    rw [← hc] at this
    exact ret_bool this
theorem isEmpty_of (s : ByteArray) (h : 0 < s.size) : s.toList.isEmpty = false ∧ ¬ s.toList = [] := by
  rw [ByteArray.toList_eq]
  have := bl_get s 0 h
  rw [List.drop_zero] at this
  show (bl s).isEmpty = false ∧ ¬ bl s = []
  rw [this]
  simp
set_option maxHeartbeats 1000000 in
theorem lexword_any (s : ByteArray) (w : World) (hs : s.size ≤ 100000) (hm : Mx w) :
    Calls Try.prog 17 #[.string s] w fun e w' => e = .returned (.bool (wordF (bl s))) ∧ Same (fun _ => True) w w' := by
  have hbl := bl_len s
  have Hbl := Lib.hid hbl
  by_cases h0 : s.size = 0
  · have hnil : bl s = [] := List.eq_nil_of_length_eq_zero (by omega)
    have K : wordF (bl s) = false := by rw [hnil]; rfl
    have HK := Lib.hid K
    have e1 : s.toList = [] := by rw [ByteArray.toList_eq]; exact hnil
    have e2 : s.toList.isEmpty = true := by rw [e1]; rfl
    have e3 : s = ⟨#[]⟩ := by rw [← str_bl s, hnil]; rfl
    clear K hbl hnil h0
    go_enter Try.func17, Try.ntmps17
    go_wp2
    go_ret
    exact ⟨by rw [HK.out]; rfl, Same.refl _ _⟩
  · have hpos : 0 < s.size := by omega
    obtain ⟨e1, e2⟩ := isEmpty_of s hpos
    have hc0 := bl_get s 0 hpos
    rw [List.drop_zero] at hc0
    by_cases h16 : 16 < s.size
    · have K : wordF (bl s) = false := by unfold wordF; rw [decide_eq_false (by omega)]; rfl
      have HK := Lib.hid K
      clear K hbl hc0 h0
      go_enter Try.func17, Try.ntmps17
      go_wp2
      go_ret
      exact ⟨by rw [HK.out]; rfl, Same.refl _ _⟩
    · have h16' : (bl s).length ≤ 16 := by omega
      have d16 : decide ((16 : Int) < s.size) = false := decide_eq_false (by omega)
      cases hd : isDig s[0]
      · have g := digit_any hd
        have K1 : wordF (bl s) = ((bl s).all isWordy && decide ((bl s).map upB = bl s) && !resW.contains (bl s)) := by
          unfold wordF wordOk
          rw [decide_eq_true h16']
          conv => lhs; rw [hc0]
          simp only [hd, Bool.not_false, Bool.true_and]
          rw [← hc0]
        have HK1 := Lib.hid K1
        by_cases hall : (bl s).all isWordy = true
        · have hrun := (runF_all isWordy (bl s)).2 hall
          rw [hbl] at hrun
          have Hall := Lib.hid hall
          by_cases hup : (bl s).map upB = bl s
          · obtain ⟨B, hB⟩ : ∃ B, resW.contains (bl s) = B := ⟨_, rfl⟩
            have K : wordF (bl s) = !B := by rw [K1, hall, decide_eq_true hup, hB]; rfl
            have HB := Lib.hid hB
            have HK := Lib.hid K
            have Hup := Lib.hid hup
            have a1 : ∀ w, (Op.stringOp .add ⟨#[32]⟩ s).run Try.prog w = .ok (.string (str (32 :: bl s))) w := fun w => by
              have : (⟨#[32]⟩ : ByteArray) ++ s = str (32 :: bl s) := str_app [32] (bl s)
              rw [← this]
              exact run_string_add_sum _ _ _ (by show 1 + s.size ≤ _; omega)
            have a2 : ∀ w, (Op.stringOp .add (str (32 :: bl s)) ⟨#[32]⟩).run Try.prog w = .ok (.string (str (32 :: bl s ++ [32]))) w := fun w => by
              have : str (32 :: bl s) ++ (⟨#[32]⟩ : ByteArray) = str (32 :: bl s ++ [32]) := str_app (32 :: bl s) [32]
              rw [← this]
              exact run_string_add_sum _ _ _ (by rw [str_size, List.length_cons, Hbl.out]; show s.size + 1 + 1 ≤ _; omega)
            have Hr := Lib.hid hrun
            clear K K1 hbl hc0 h0 hd hall hrun hup hB
            go_enter Try.func17, Try.ntmps17
            go_wp2_with (first | (go_at_call 37; refine (g _).mono ?_; rintro e w' ⟨rfl, rfl⟩) | (go_at_call 38; refine (lexrunw_any s _ (by unfold maxLen; omega)).mono ?_; rw [Hr.out]; rintro e w' ⟨rfl, rfl⟩) | (go_at_call 40; refine (lexupper_any s _ hs).mono ?_; rw [Hup.out, str_bl]; rintro e w1 ⟨rfl, hS⟩) | (go_at_call 41; refine stopAt ?_))
            unfold Hid
            refine (contains_any _ (bl s) _ (by decide +kernel) (wordy_noBl Hall.out) (hm.keep hS)).mono ?_
            rw [HB.out]
            rintro e w' ⟨rfl, rfl⟩
            go_wp2
            go_ret
            exact ⟨by rw [HK.out]; rfl, hS⟩
          · have K : wordF (bl s) = false := by rw [K1, hall, decide_eq_false hup]; rfl
            have HK := Lib.hid K
            have hne : ¬ (str ((bl s).map upB)).toList = s.toList := by
              rw [ByteArray.toList_eq, ByteArray.toList_eq]
              exact hup
            have hne2 : ((str ((bl s).map upB)).toList == s.toList) = false := by simpa using hne
            have Hr := Lib.hid hrun
            clear K K1 hbl hc0 h0 hd hall hrun hup
            go_enter Try.func17, Try.ntmps17
            go_wp2_with (first | (go_at_call 37; refine (g _).mono ?_; rintro e w' ⟨rfl, rfl⟩) | (go_at_call 38; refine (lexrunw_any s _ (by unfold maxLen; omega)).mono ?_; rw [Hr.out]; rintro e w' ⟨rfl, rfl⟩) | (go_at_call 40; refine (lexupper_any s _ hs).mono ?_; rintro e w1 ⟨rfl, hS⟩))
            go_ret
            exact ⟨by rw [HK.out]; rfl, hS⟩
        · have K : wordF (bl s) = false := by rw [K1, Bool.eq_false_iff.2 hall]; rfl
          have HK := Lib.hid K
          have hrun : runF isWordy (bl s) < s.size := by
            have h1 := runF_le isWordy (bl s)
            have h2 : runF isWordy (bl s) ≠ s.size := fun e => hall ((runF_all isWordy (bl s)).1 (by rw [e, hbl]))
            rw [hbl] at h1
            omega
          clear K K1 hbl hc0 h0 hd hall
          go_enter Try.func17, Try.ntmps17
          go_wp2_with (first | (go_at_call 37; refine (g _).mono ?_; rintro e w' ⟨rfl, rfl⟩) | (go_at_call 38; refine (lexrunw_any s _ (by unfold maxLen; omega)).mono ?_; rintro e w' ⟨rfl, rfl⟩))
          go_ret
          exact ⟨by rw [HK.out]; rfl, Same.refl _ _⟩
      · have g := digit_any hd
        have K : wordF (bl s) = false := by
          unfold wordF wordOk
          conv => lhs; rw [hc0]
          simp [hd]
        have HK := Lib.hid K
        clear K hbl hc0 h0 hd
        go_enter Try.func17, Try.ntmps17
        go_wp2_with (first | (go_at_call 37; refine (g _).mono ?_; rintro e w' ⟨rfl, rfl⟩))
        go_ret
        exact ⟨by rw [HK.out]; rfl, Same.refl _ _⟩
end Go.Proofs.Ytcckifllammpbaa
