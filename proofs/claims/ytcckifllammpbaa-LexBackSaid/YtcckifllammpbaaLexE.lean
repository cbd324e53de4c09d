/-
  The walks of names: the document's Word.
-/
import Derived.Test.YtcckifllammpbaaLexD
set_option linter.unusedSimpArgs false
set_option linter.unusedVariables false
namespace Go.Proofs.Ytcckifllammpbaa
open Go.RowKit Go.ChangeShapes Go.WideShapes Go.ChangeAt

def resCs : List Value := resW.map fun x => .string (str x)
def ResP (w : World) (e : Ending) (w' : World) : Prop := ∃ g, e = .returned (.slice (some ⟨g, 0, none⟩) 32 32) ∧ Row w' g 9 resCs ∧ w.heap.size ≤ g ∧ Same (fun _ => True) w w'
set_option maxHeartbeats 1000000 in
set_option maxRecDepth 100000 in
theorem refreserved_any (w : World) : Calls Try.prog 45 #[] w (ResP w) := by
  go_enter Try.func45, Try.ntmps45
  go_wp2
  go_ret
  exact ⟨w.heap.size, rfl, Row.new w 9 resCs, Nat.le_refl _, (Same.refl _ _).alloc _⟩
def goodB (c : UInt8) : Bool := isWordy c && (upB c == c)
theorem all_good (l : List UInt8) : l.all goodB = (l.all isWordy && decide (l.map upB = l)) := by
  induction l with
  | nil => rfl
  | cons c l ih =>
    simp only [List.all_cons, List.map_cons, ih, goodB]
    rw [Bool.eq_iff_iff]
    simp
    constructor
    · rintro ⟨⟨a, b⟩, c, d⟩; exact ⟨⟨a, c⟩, b, d⟩
    · rintro ⟨⟨a, c⟩, b, d⟩; exact ⟨⟨a, b⟩, c, d⟩
theorem all_drop (s : ByteArray) (p : UInt8 → Bool) (k : Nat) (h : k < s.size) : ((bl s).drop k).all p = (p s[k] && ((bl s).drop (k + 1)).all p) := by
  rw [bl_get s k h]; rfl
theorem quietly {P : Program} {f : FuncId} {args : Array Value} {v : Value} (h : ∀ w, Calls P f args w fun e w' => e = .returned v ∧ w = w') (w : World) (n : Nat) : Calls P f args (w.drewN n) fun e w' => e = .returned v ∧ w' = w.drewN n :=
  (h (w.drewN n)).mono fun _ _ ⟨a, b⟩ => ⟨a, b.symm⟩
theorem resCs_get (i : Nat) (h : i < 32) : resCs[i]? = some (.string (str (resW[i]'h))) := by
  unfold resCs
  rw [List.getElem?_map, List.getElem?_eq_getElem h]
  rfl
theorem resW_step (i : Nat) (h : i < 32) (l : List UInt8) : (resW.drop i).contains l = (l == resW[i]'h || (resW.drop (i + 1)).contains l) := by
  rw [List.drop_eq_getElem_cons (show i < resW.length from h), List.contains_cons]
  rfl
set_option maxHeartbeats 1000000 in
theorem refword_any (s : ByteArray) (w : World) (hs : s.size ≤ 100000) :
    Calls Try.prog 18 #[.string s] w fun e w' => e = .returned (.bool (wordF (bl s))) ∧ Same (fun _ => True) w w' := by
  have hbl := bl_len s
  have Hbl := Lib.hid hbl
  by_cases h0 : s.size = 0
  · have hnil : bl s = [] := List.eq_nil_of_length_eq_zero (by omega)
    have K : wordF (bl s) = false := by rw [hnil]; rfl
    have HK := Lib.hid K
    have e1 : ((s.size : Int) == 0) = true := by simpa using h0
    clear K hbl hnil h0
    go_enter Try.func18, Try.ntmps18
    go_wp2
    go_ret
    exact ⟨by rw [HK.out]; rfl, Same.refl _ _⟩
  · have hpos : 0 < s.size := by omega
    have e1 : ((s.size : Int) == 0) = false := by simpa using h0
    have hc0 := bl_get s 0 hpos
    rw [List.drop_zero] at hc0
    by_cases h16 : 16 < s.size
    · have K : wordF (bl s) = false := by unfold wordF; rw [decide_eq_false (by omega)]; rfl
      have HK := Lib.hid K
      have d16 : decide ((16 : Int) < s.size) = true := decide_eq_true (by omega)
      clear K hbl hc0 h0
      go_enter Try.func18, Try.ntmps18
      go_wp2
      go_ret
      exact ⟨by rw [HK.out]; rfl, Same.refl _ _⟩
    · have h16' : (bl s).length ≤ 16 := by omega
      have d16 : decide ((16 : Int) < s.size) = false := decide_eq_false (by omega)
      cases hd : isDig s[0]
      · have g := refdig hd
        have K1 : wordF (bl s) = ((bl s).all goodB && !resW.contains (bl s)) := by
          rw [all_good]
          unfold wordF wordOk
          rw [decide_eq_true h16']
          conv => lhs; rw [hc0]
          simp only [hd, Bool.not_false, Bool.true_and]
          rw [← hc0]
        have HK1 := Lib.hid K1
        clear K1 hbl hc0 h0 hd
        go_enter Try.func18, Try.ntmps18
        go_wp2_with (go_at_call 42; refine (g _).mono ?_; rintro e w' ⟨rfl, rfl⟩)
        go_loopw [3] (fun i wr => ∃ k : Nat, k ≤ s.size ∧ i = .int .i64 k ∧ ((bl s).drop k).all goodB = (bl s).all goodB ∧ Same (fun _ => True) w wr) (fun i _ => s.size - (intOf i).toNat)
        case atStart => exact ⟨0, Nat.zero_le _, rfl, rfl, Same.refl _ _⟩
        case round =>
          clear g
          obtain ⟨k, hk, rfl, hall, hS⟩ := hrel
          have HS := Lib.hid hS
          clear hS
          by_cases hlt : k < s.size
          · have x1 : (0 : Int) ≤ k := by omega
            have x2 : (k : Int) < s.size := by omega
            rw [all_drop s goodB k hlt] at hall
            cases hl : isLet s[k] <;> cases hdg : isDig s[k] <;> cases hu : decide (upB s[k] = s[k])
            all_goals
              have hg : goodB s[k] = ((isLet s[k] || isDig s[k]) && decide (upB s[k] = s[k])) := by
                unfold goodB isWordy
                congr 1
              rw [hl, hdg, hu] at hg
              have q1 := quietly (reflet hl)
              have q2 := quietly (refdig hdg)
              have q3 := quietly (refgreat (c := s[k]))
              rw [hg] at hall
              have Hall := Lib.hid hall
              clear hg hl hdg hall
              first
              | (have u1 : ((n8 (upB s[k]) : Int) != (s[k].toNat : Int)) = false := by
                   have := of_decide_eq_true hu
                   rw [this]; simp [n8])
              | (have u1 : ((n8 (upB s[k]) : Int) != (s[k].toNat : Int)) = true := by
                   have := of_decide_eq_false hu
                   simp
                   exact fun e => this (n8_inj.1 e))
              clear hu
              go_wp2
              go_quiet ((first | (go_at_call 43; exact Calls.quiet_of_same (q1 _ _)) | (go_at_call 42; exact Calls.quiet_of_same (q2 _ _)) | (go_at_call 44; exact Calls.quiet_of_same (q3 _ _))))
              go_wp2
              first
              | (go_ret
                 exact ⟨by rw [HK1.out, ← Hall.out]; rfl, HS.out.drewN _⟩)
              | (refine ⟨⟨k + 1, by omega, by go_num, Hall.out, HS.out.drewN _⟩, by simp [intOf]; omega⟩)
          · obtain rfl : k = s.size := by omega
            rw [List.drop_eq_nil_of_le (by rw [Hbl.out]; exact Nat.le_refl _)] at hall
            obtain ⟨B, hB⟩ : ∃ B, resW.contains (bl s) = B := ⟨_, rfl⟩
            have K : wordF (bl s) = !B := by rw [HK1.out, ← hall, hB]; rfl
            have HK := Lib.hid K
            have HB := Lib.hid hB
            clear K hB hall
            go_wp2_with (go_at_call 45; refine (refreserved_any _).mono ?_; rintro e w1 ⟨g, rfl, hrow, hg, hS1⟩)
            have Hrow := Lib.hid hrow
            have HS1 := Lib.hid (HS.out.trans hS1)
            clear hrow hS1
            go_loop [5] (fun i => ∃ j : Nat, j ≤ 32 ∧ i = .int .i64 j ∧ (resW.drop j).contains (bl s) = B) (fun i => 32 - (intOf i).toNat)
            case atStart => exact ⟨0, by omega, rfl, HB.out⟩
            case round =>
              obtain ⟨j, hj, rfl, hc⟩ := hrel
              by_cases hlt2 : j < 32
              · have x1 : (0 : Int) ≤ j := by omega
                have x2 : (j : Int) < 32 := by omega
                have hcell := Hrow.out.cell j
                rw [resCs_get j hlt2] at hcell
                rw [resW_step j hlt2] at hc
                by_cases heq : bl s = resW[j]'hlt2
                · have u1 : (str (resW[j]'hlt2)).toList = s.toList := by rw [ByteArray.toList_eq, ByteArray.toList_eq]; exact heq.symm
                  have hb : B = true := by rw [← hc, heq]; simp
                  have Hb := Lib.hid hb
                  clear hc heq hb
                  go_wp2
                  go_ret
                  exact ⟨by rw [HK.out, Hb.out]; rfl, HS1.out⟩
                · have u1 : ¬ (str (resW[j]'hlt2)).toList = s.toList := by rw [ByteArray.toList_eq, ByteArray.toList_eq]; exact fun e => heq e.symm
                  have u2 : ((str (resW[j]'hlt2)).toList == s.toList) = false := by simpa using u1
                  have hc' : (resW.drop (j + 1)).contains (bl s) = B := by
                    have : (bl s == resW[j]'hlt2) = false := by simpa using heq
                    rw [this, Bool.false_or] at hc
                    exact hc
                  have HC := Lib.hid hc'
                  clear hc heq hc'
                  go_wp2
                  go_round
                  case rel => exact ⟨j + 1, by omega, by go_num, HC.out⟩
                  case measure => simp [intOf]; omega
              · obtain rfl : j = 32 := by omega
                have hb : B = false := by rw [← hc]; rfl
                have Hb := Lib.hid hb
                clear hc hb
                go_wp2
                go_ret
                exact ⟨by rw [HK.out, Hb.out]; rfl, HS1.out⟩
      · have g := refdig hd
        have K : wordF (bl s) = false := by
          unfold wordF wordOk
          conv => lhs; rw [hc0]
          simp [hd]
        have HK := Lib.hid K
        clear K hbl hc0 h0 hd
        go_enter Try.func18, Try.ntmps18
        go_wp2_with (first | (go_at_call 42; refine (g _).mono ?_; rintro e w' ⟨rfl, rfl⟩))
        go_ret
        exact ⟨by rw [HK.out]; rfl, Same.refl _ _⟩
end Go.Proofs.Ytcckifllammpbaa
