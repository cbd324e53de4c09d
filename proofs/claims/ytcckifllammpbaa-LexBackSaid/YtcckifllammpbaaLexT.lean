/-
  The walk of package lex's text: what stands between quotes.
-/
import Derived.Test.YtcckifllammpbaaLexN
import Derived.Test.YtcckifllammpbaaLexP
import Derived.Test.YtcckifllammpbaaLibB
set_option linter.unusedSimpArgs false
set_option linter.unusedVariables false
namespace Go.Proofs.Ytcckifllammpbaa
open Go.RowKit

theorem byte_eq (c d : UInt8) : ((c.toNat : Int) == (d.toNat : Int)) = decide (c = d) := by
  rw [Bool.eq_iff_iff]; simp
  rw [← UInt8.toNat_inj]; omega
theorem byte_is {c : UInt8} (d : UInt8) (h : c = d) : ((c.toNat : Int) == (d.toNat : Int)) = true ∧ ((c.toNat : Int) != (d.toNat : Int)) = false := by
  subst h; simp
theorem byte_no {c : UInt8} (d : UInt8) (h : c ≠ d) : ((c.toNat : Int) == (d.toNat : Int)) = false ∧ ((c.toNat : Int) != (d.toNat : Int)) = true := by
  have : ((c.toNat : Int) == (d.toNat : Int)) = false := by rw [byte_eq]; simpa using h
  exact ⟨this, by rw [bne, this]; rfl⟩
theorem text_results {W : World} {k : Nat} {n0 n1 n3 n e : Int} {s2 : ByteArray} (R : Row W k 28 [.int .i64 n0, .int .i64 n1, .string s2, .int .i64 n3]) {tmps : Array Value}
    (h2 : tmps.getD 2 undef = .pointer (some ⟨k, 0, none⟩)) (h3 : tmps.getD 3 undef = .int .i64 n) (h4 : tmps.getD 4 undef = .int .i64 e) :
    (results Try.f59 tmps).run Try.prog W = .ok (.tuple #[.agg #[.int .i64 n0, .int .i64 n1, .string s2, .int .i64 n3], .int .i64 n, .int .i64 e]) W := by
  have d0 : W.cell? ⟨k, 0, none⟩ = some (.int .i64 n0) := R.cell 0
  have d1 : W.cell? ⟨k, 1, none⟩ = some (.int .i64 n1) := R.cell 1
  have d2 : W.cell? ⟨k, 2, none⟩ = some (.string s2) := R.cell 2
  have d3 : W.cell? ⟨k, 3, none⟩ = some (.int .i64 n3) := R.cell 3
  simp at h2 h3 h4
  simp [results, Try.results59, h2, h3, h4, go_sem, d0, d1, d2, d3]
theorem tok_set4 {w wr : World} {a b c d : Value} {a' b' c' d' : Value} (HR : Row wr w.heap.size 28 [a', b', c', d']) (HS : Same (fun _ => True) w wr) :
    Row ((((wr.setCell ⟨w.heap.size, 0, none⟩ a).setCell ⟨w.heap.size, 1, none⟩ b).setCell ⟨w.heap.size, 2, none⟩ c).setCell ⟨w.heap.size, 3, none⟩ d) w.heap.size 28 [a, b, c, d] ∧
    Same (fun _ => True) w ((((wr.setCell ⟨w.heap.size, 0, none⟩ a).setCell ⟨w.heap.size, 1, none⟩ b).setCell ⟨w.heap.size, 2, none⟩ c).setCell ⟨w.heap.size, 3, none⟩ d) :=
  ⟨(((HR.set_ 0 a).set_ 1 b).set_ 2 c).set_ 3 d, (((HS.setCell (fun h => absurd h (Nat.lt_irrefl _)) _).setCell (fun h => absurd h (Nat.lt_irrefl _)) _).setCell (fun h => absurd h (Nat.lt_irrefl _)) _).setCell (fun h => absurd h (Nat.lt_irrefl _)) _⟩
/-- What text has at a round's head. -/
def TextRel (s : ByteArray) (R : TRes) (w : World) (k : Nat) (acc : List UInt8) (v : Value) (wr : World) : Prop :=
  OwnB wr (w.heap.size + 1) v acc ∧ acc.length ≤ k ∧ R = textGo acc k ((bl s).drop k) ∧
  Row wr w.heap.size 28 [.int .i64 0, .int .i64 0, .string ⟨#[]⟩, .int .i64 0] ∧ Same (fun _ => True) w wr
set_option maxHeartbeats 1000000 in
theorem lextext_any (s : ByteArray) (w : World) (hs : s.size ≤ 100000) (h0 : 0 < s.size) (R : TRes) (hR : R = textGo [] 1 ((bl s).drop 1)) :
    Calls Try.prog 59 #[.string s] w (TokP R w) := by
  have hrow0 := Row.new w 28 [.int .i64 0, .int .i64 0, .string ⟨#[]⟩, .int .i64 0]
  have Hrow0 := Lib.hid hrow0
  have HR0 := Lib.hid hR
  clear hrow0 hR
  go_enter Try.func59, Try.ntmps59
  go_wp2
  go_loopw [5, 6] (fun b i wr => ∃ (k : Nat) (acc : List UInt8), 1 ≤ k ∧ k ≤ s.size ∧ i = .int .i64 k ∧ TextRel s R w k acc b wr) (fun _ i _ => s.size - (intOf i).toNat)
  case atStart => exact ⟨1, [], Nat.le_refl _, h0, rfl, OwnB.nil _ _, by simp, HR0.out, Hrow0.out, (Same.refl _ _).alloc _⟩
  case round =>
    obtain ⟨k, acc, hk1, hk, rfl, hown, hacc, hgo, hrow, hS⟩ := hrel
    clear HR0 Hrow0
    have Hown := Lib.hid hown
    have Hrow := Lib.hid hrow
    have HS := Lib.hid hS
    obtain ⟨A, c, rfl, hc1, hc2⟩ := hown.form
    have hcell0 := hrow.cell 0
    have hcell1 := hrow.cell 1
    have hcell2 := hrow.cell 2
    have hcell3 := hrow.cell 3
    have hfz0 := hrow.frozen 0
    have hfz1 := hrow.frozen 1
    have hfz2 := hrow.frozen 2
    have hfz3 := hrow.frozen 3
    simp at hcell0 hcell1 hcell2 hcell3
    have hsz : w.heap.size < wr.heap.size := hrow.lt
    unfold maxLen at hc2
    clear hown hrow hS
    by_cases hlt : k < s.size
    · have hdrop := bl_get s k hlt
      rw [hdrop] at hgo
      clear hdrop
      by_cases hq : s[k] = 39
      · obtain ⟨q1, q2⟩ := byte_is 39 hq
        simp only [show (((39 : UInt8).toNat : Nat) : Int) = 39 from rfl] at q1 q2
        rw [hq] at hgo
        clear hq
        by_cases hend : ((bl s).drop (k + 1)).head? ≠ some 39
        · rw [textGo_q _ _ _ hend] at hgo
          have Hgo := Lib.hid hgo
          clear hgo
          have step : (k + 1 = s.size) ∨ ∃ h : k + 1 < s.size, s[k + 1] ≠ 39 := by
            rcases Nat.lt_or_ge (k + 1) s.size with h | h
            · right
              refine ⟨h, fun e => hend ?_⟩
              rw [bl_get s (k + 1) h, e]
              rfl
            · left; omega
          clear hend
          rcases step with hlast | ⟨hlt2, hne⟩
          · have e1 : ((k : Int) + 1 == (s.size : Int)) = true := by simp; omega
            have e2 : ((k : Int) + 1 != (s.size : Int)) = false := by simp; omega
            clear hlast
            by_cases h64 : 64 < acc.length
            · go_wp2
              rw [Hgo.out, if_pos h64]
              obtain ⟨r1, r2⟩ := tok_set4 Hrow.out HS.out
              exact bodyPost_ret (text_results r1 rfl rfl rfl) rfl ⟨rfl, r2⟩
            · go_wp2_with (with_reducible refine stopConv rfl ?_)
              unfold Hid
              have hcv := (Hown.out.by_).conv (P := Try.prog) 83 9 5 Try.underlying83 Try.underlying5 Try.underlying9
              refine wpList_conv rfl rfl rfl hcv ?_
              clear hcv
              go_wp2
              rw [Hgo.out, if_neg h64]
              obtain ⟨r1, r2⟩ := tok_set4 Hrow.out HS.out
              exact bodyPost_ret (text_results r1 rfl rfl rfl) rfl ⟨rfl, r2⟩
          · obtain ⟨n1, n2⟩ := byte_no 39 hne
            simp only [show (((39 : UInt8).toNat : Nat) : Int) = 39 from rfl] at n1 n2
            have e1 : ((k : Int) + 1 == (s.size : Int)) = false := by simp; omega
            have e2 : ((k : Int) + 1 != (s.size : Int)) = true := by simp; omega
            clear hne
            by_cases h64 : 64 < acc.length
            · go_wp2
              rw [Hgo.out, if_pos h64]
              obtain ⟨r1, r2⟩ := tok_set4 Hrow.out HS.out
              exact bodyPost_ret (text_results r1 rfl rfl rfl) rfl ⟨rfl, r2⟩
            · go_wp2_with (with_reducible refine stopConv rfl ?_)
              unfold Hid
              have hcv := (Hown.out.by_).conv (P := Try.prog) 83 9 5 Try.underlying83 Try.underlying5 Try.underlying9
              refine wpList_conv rfl rfl rfl hcv ?_
              clear hcv
              go_wp2
              rw [Hgo.out, if_neg h64]
              obtain ⟨r1, r2⟩ := tok_set4 Hrow.out HS.out
              exact bodyPost_ret (text_results r1 rfl rfl rfl) rfl ⟨rfl, r2⟩
        · have hh : ((bl s).drop (k + 1)).head? = some 39 := Classical.not_not.1 hend
          clear hend
          have hlt2 : k + 1 < s.size := by
            rcases Nat.lt_or_ge (k + 1) s.size with h | h
            · exact h
            · rw [List.drop_eq_nil_of_le (by rw [bl_len]; exact h)] at hh; cases hh
          rw [bl_get s (k + 1) hlt2] at hgo hh
          have hq2 : s[k + 1] = 39 := by simpa using hh
          rw [hq2, textGo_qq] at hgo
          obtain ⟨n1, n2⟩ := byte_is 39 hq2
          simp only [show (((39 : UInt8).toNat : Nat) : Int) = 39 from rfl] at n1 n2
          have Hgo := Lib.hid hgo
          have Hq2 := Lib.hid hq2
          have e1 : ((k : Int) + 1 == (s.size : Int)) = false := by simp; omega
          have e2 : ((k : Int) + 1 != (s.size : Int)) = true := by simp; omega
          clear hgo hh hq2
          go_wp2_with (at_builtin; refine stopAt ?_)
          unfold Hid
          refine wpList_appB1 (c := s[k + 1]) rfl (.tmp 37) (.tmp 41) rfl rfl rfl Hown.out (by omega) (by omega) ?_
          intro v' w' hown' hS'
          rw [Hq2.out] at hown'
          have Hown' := Lib.hid hown'
          have HS' := Lib.hid hS'
          clear hown' hS'
          go_wp2
          go_roundw
          case rel => exact ⟨k + 1 + 1, acc ++ [39], by omega, by omega, by go_num, Hown'.out, by simp; omega, Hgo.out, Hrow.out.keep HS'.out (by omega), HS.out.trans' HS'.out (fun i hi _ => by omega)⟩
          case measure => simp [intOf]; omega
      · obtain ⟨q1, q2⟩ := byte_no 39 hq
        simp only [show (((39 : UInt8).toNat : Nat) : Int) = 39 from rfl] at q1 q2
        rw [textGo_c _ _ _ _ hq] at hgo
        have Hgo := Lib.hid hgo
        clear hgo hq
        go_wp2_with (at_builtin; refine stopAt ?_)
        unfold Hid
        refine wpList_appB1 (c := s[k]) rfl (.tmp 37) (.tmp 41) rfl rfl rfl Hown.out (by omega) (by omega) ?_
        intro v' w' hown' hS'
        have Hown' := Lib.hid hown'
        have HS' := Lib.hid hS'
        clear hown' hS'
        go_wp2
        go_roundw
        case rel => exact ⟨k + 1, acc ++ [s[k]], by omega, by omega, by go_num, Hown'.out, by simp; omega, Hgo.out, Hrow.out.keep HS'.out (by omega), HS.out.trans' HS'.out (fun i hi _ => by omega)⟩
        case measure => simp [intOf]; omega
    · rw [List.drop_eq_nil_of_le (by rw [bl_len]; omega)] at hgo
      have hgo' : R = tErr 13 := by rw [hgo]; simp [textGo]
      have Hgo := Lib.hid hgo'
      clear hgo hgo'
      go_wp2
      rw [Hgo.out]
      obtain ⟨r1, r2⟩ := tok_set4 Hrow.out HS.out
      exact bodyPost_ret (text_results r1 rfl rfl rfl) rfl ⟨rfl, r2⟩
end Go.Proofs.Ytcckifllammpbaa
