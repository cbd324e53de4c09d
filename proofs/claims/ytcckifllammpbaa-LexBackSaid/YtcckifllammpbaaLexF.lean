/-
  The walk of the document's Lex.
-/
import Derived.Test.YtcckifllammpbaaLexO
set_option linter.unusedSimpArgs false
set_option linter.unusedVariables false
namespace Go.Proofs.Ytcckifllammpbaa
open Go.RowKit

theorem refblank {c : UInt8} {b : Bool} (h : isBlank c = b) (w : World) : Calls Try.prog 35 #[.int .u8 (n8 c)] w fun e w' => e = .returned (.bool b) ∧ w = w' := by
  subst h; exact refblank_any c w
set_option maxHeartbeats 1000000 in
theorem reflex_any (s : ByteArray) (w : World) (hs : s.size ≤ 100000) : Calls Try.prog 16 #[.string s] w (LexPost (lexF (bl s)) w) := by
  have hbl := bl_len s
  by_cases hlong : 2000 < s.size
  · have K : lexF (bl s) = (3, []) := by unfold lexF; rw [if_pos (by rw [hbl]; exact hlong)]
    have HK := Lib.hid K
    clear K hbl
    go_enter Try.func16, Try.ntmps16
    go_wp2
    go_ret2
    rw [HK.out]
    exact ⟨_, rfl, OwnT.nil _ _, Same.refl _ _⟩
  · obtain ⟨r, hr⟩ : ∃ r, r = lexFrom 0 (bl s) := ⟨_, rfl⟩
    have K : lexF (bl s) = if r.1 = 0 then (0, r.2 ++ [(s.size, ⟨0, [], 0⟩)]) else (r.1, []) := by unfold lexF; rw [if_neg (by rw [hbl]; exact hlong), hr, hbl]
    have hr0 : r = thenL (0, []) (lexFrom 0 ((bl s).drop 0)) := by rw [List.drop_zero, ← hr]; exact (thenL_nil r 0 (bl s) hr).symm
    have HK := Lib.hid K
    have Hr0 := Lib.hid hr0
    have Hbl := Lib.hid hbl
    clear K hr hr0 hbl
    go_enter Try.func16, Try.ntmps16
    go_wp2
    go_loopw [4, 5, 6, 7, 8] (fun v i _ _ _ wr => ∃ (k : Nat) (l : List (Nat × Tok)), k ≤ s.size ∧ i = .int .i64 k ∧ LexRel s r w k l v wr) (fun _ i _ _ _ _ => s.size - (intOf i).toNat)
    case atStart => exact ⟨0, [], Nat.zero_le _, rfl, OwnT.nil _ _, by simp, Hr0.out, Same.refl _ _⟩
    case round =>
      obtain ⟨k, l, hk, rfl, hown, hl, hgo, hS⟩ := hrel
      clear Hr0
      have Hown := Lib.hid hown
      have HS := Lib.hid hS
      obtain ⟨A, c, rfl, hc1, hc2⟩ := hown.form
      have hsz : w.heap.size ≤ wr.heap.size := hS.size
      unfold maxLen at hc2
      clear hown hS
      by_cases hlt : k < s.size
      · have hdrop := bl_get s k hlt
        cases hb : isBlank s[k]
        · have g := refblank hb
          have hne : (bl s).drop k ≠ [] := by rw [hdrop]; simp
          obtain ⟨R, hR⟩ : ∃ R, R = tokF ((bl s).drop k) := ⟨_, rfl⟩
          have hkind : R.e = 0 → ¬ R.t.kind = 0 := by
            rw [hR, hdrop]
            intro he
            exact tokF_kind hb he
          have HR := Lib.hid hR
          have Hb := Lib.hid hb
          have Hdrop := Lib.hid hdrop
          have Hne := Lib.hid hne
          have Hgo0 := Lib.hid hgo
          have Hkind := Lib.hid hkind
          clear hb hR hdrop hne hgo hkind
          go_wp2_with (first | (go_at_call 35; refine (g _).mono ?_; rintro e w' ⟨rfl, rfl⟩) | (go_at_call 36; refine stopAt ?_))
          unfold Hid
          refine (refone_any s k _ hs hlt Hb.out R HR.out).mono ?_
          rintro e w1 ⟨rfl, hS1⟩
          have HS1 := Lib.hid hS1
          by_cases he : R.e = 0
          · have hpos := tokF_pos (s := (bl s).drop k) (by rw [← HR.out]; exact he)
            rw [← HR.out, List.length_drop, Hbl.out] at hpos
            have hstep := lexFrom_then (i := k) Hne.out (by rw [← HR.out]; exact he)
            rw [← HR.out, List.drop_drop, if_neg (Hkind.out he)] at hstep
            have hgo := Hgo0.out
            rw [hstep, thenL_thenL] at hgo
            have Hgo := Lib.hid hgo
            have e1 : ((R.e : Int) != 0) = false := by rw [he]; rfl
            rw [if_pos he]
            clear hgo hstep hS1 he
            go_wp2_with (at_builtin; refine stopAt ?_)
            unfold Hid
            refine wpList_appT1 (c := (k, R.t)) rfl (.tmp 34) (.tmp 36) rfl rfl rfl (by simp) ((Hown.out.keepAll HS1.out).keepAll ((Same.refl _ _).alloc _)) (by have := HS1.out.size; simp; omega) (by omega) ?_
            intro v' w2 hown2 hS2
            have Hown2 := Lib.hid hown2
            have HS2 := Lib.hid hS2
            clear hown2 hS2
            go_wp2
            go_roundw
            case rel =>
              exact ⟨k + R.n, l ++ [(k, R.t)], by omega, by go_num, Hown2.out, by simp; omega, Hgo.out, ((HS.out.trans HS1.out).alloc _).trans' HS2.out (fun i hi _ => by omega)⟩
            case measure => simp [intOf]; omega
          · have e1 : ((R.e : Int) != 0) = true := by simp; exact he
            have hstep := lexFrom_err (i := k) Hne.out (by rw [← HR.out]; exact he)
            rw [← HR.out] at hstep
            have hgo := Hgo0.out
            rw [hstep] at hgo
            have hr1 : r = (R.e, []) := by rw [hgo]; unfold thenL; rw [if_neg he]
            have Hr1 := Lib.hid hr1
            have He := Lib.hid he
            rw [if_neg he]
            clear hgo hstep hS1 hr1 he
            go_wp2
            go_ret2
            rw [HK.out, Hr1.out, if_neg He.out]
            exact ⟨_, rfl, OwnT.nil _ _, (HS.out.trans HS1.out).alloc _⟩
        · have g := refblank hb
          rw [hdrop, lexFrom_blank hb] at hgo
          have Hgo := Lib.hid hgo
          clear hb hgo hdrop
          go_wp2_with (go_at_call 35; refine (g _).mono ?_; rintro e w' ⟨rfl, rfl⟩)
          go_roundw
          case rel => exact ⟨k + 1, l, by omega, by go_num, Hown.out, by omega, Hgo.out, HS.out⟩
          case measure => simp [intOf]; omega
      · obtain rfl : k = s.size := by omega
        rw [List.drop_eq_nil_of_le (by rw [Hbl.out]; exact Nat.le_refl _), lexFrom_nil] at hgo
        have hr1 : r = (0, l) := by rw [hgo]; simp [thenL]
        have Hr1 := Lib.hid hr1
        clear hgo hr1
        go_wp2_with (at_builtin; refine stopAt ?_)
        unfold Hid
        refine wpList_appT1 (c := (s.size, ⟨0, [], 0⟩)) rfl (.tmp 39) (.tmp 43) rfl rfl rfl (by simp) Hown.out hsz (by omega) ?_
        intro v' w2 hown2 hS2
        have Hown2 := Lib.hid hown2
        have HS2 := Lib.hid hS2
        clear hown2 hS2
        go_wp2
        go_ret2
        rw [HK.out, Hr1.out]
        exact ⟨_, rfl, Hown2.out, HS.out.trans' HS2.out (fun i hi _ => by omega)⟩
end Go.Proofs.Ytcckifllammpbaa
