/-
  The walk of the document's lex: texts between quotes.
-/
import Derived.Test.YtcckifllammpbaaLexR
set_option linter.unusedSimpArgs false
set_option linter.unusedVariables false
namespace Go.Proofs.Ytcckifllammpbaa
open Go.RowKit

theorem str_app (a b : List UInt8) : str a ++ str b = str (a ++ b) := by
  apply ByteArray.ext
  simp [str]
theorem ext_one (s : ByteArray) (k : Nat) (h : k < s.size) : s.extract k (k + 1) = str [s[k]] := by
  apply ByteArray.ext
  rw [ByteArray.data_extract]
  apply Array.toList_inj.1
  show (s.data.extract k (k + 1)).toList = [s[k]]
  rw [Array.toList_extract, List.extract_eq_take_drop]
  have := bl_get s k h
  show ((bl s).drop k).take (k + 1 - k) = _
  rw [this]
  simp
theorem ext_two (s : ByteArray) (k : Nat) (h : k + 1 < s.size) : s.extract k (k + 2) = str [s[k], s[k + 1]] := by
  apply ByteArray.ext
  rw [ByteArray.data_extract]
  apply Array.toList_inj.1
  show (s.data.extract k (k + 2)).toList = [s[k], s[k + 1]]
  rw [Array.toList_extract, List.extract_eq_take_drop]
  have h1 := bl_get s k (by omega)
  have h2 := bl_get s (k + 1) h
  show ((bl s).drop k).take (k + 2 - k) = _
  rw [h1, h2]
  rw [show k + 2 - k = 2 from by omega]
  rfl
theorem add_one (acc : List UInt8) (s : ByteArray) (k : Nat) (h : k < s.size) (ha : acc.length ≤ 1000000) (hs : s.size ≤ 1000000) (w : World) :
    (Op.stringOp .add (str acc) (s.extract k (k + 1))).run Try.prog w = .ok (.string (str (acc ++ [s[k]]))) w := by
  rw [ext_one s k h, ← str_app]
  exact run_string_add_sum _ _ _ (by rw [str_size, str_size]; simp; omega)
/-- What text's loop holds. -/
def RTextRel (s : ByteArray) (R : TRes) (a k : Nat) (acc : List UInt8) : Prop :=
  a + 1 ≤ k ∧ k ≤ s.size ∧ acc.length ≤ k ∧ R = textGo acc (k - a) ((bl s).drop k)
set_option maxHeartbeats 1000000 in
theorem reftext_any (s : ByteArray) (a : Nat) (w : World) (hs : s.size ≤ 100000) (ha : a < s.size) (R : TRes) (hR : R = textGo [] 1 ((bl s).drop (a + 1))) :
    Calls Try.prog 62 #[.string s, .int .i64 a] w (OneP R a w) := by
  have HR := Lib.hid hR
  clear hR
  go_enter Try.func62, Try.ntmps62
  go_wp2
  go_loop [7, 8] (fun t i => ∃ (k : Nat) (acc : List UInt8), i = .int .i64 k ∧ t = .string (str acc) ∧ RTextRel s R a k acc) (fun _ i => s.size - (intOf i).toNat)
  case atStart => exact ⟨a + 1, [], by go_num, rfl, Nat.le_refl _, by omega, by simp, by rw [HR.out]; congr 1; omega⟩
  case round =>
    obtain ⟨k, acc, rfl, rfl, h1, h2, h3, hgo⟩ := hrel
    have hsz := str_size acc
    have Hsz := Lib.hid hsz
    clear hsz
    by_cases hlt : k < s.size
    · have hdrop := bl_get s k hlt
      rw [hdrop] at hgo
      clear hdrop
      by_cases hq : s[k] = 39
      · obtain ⟨q1, q2⟩ := byte_is 39 hq
        simp only [show (((39 : UInt8).toNat : Nat) : Int) = 39 from rfl] at q1 q2
        rw [hq] at hgo
        clear hq
        by_cases hend : ((bl s).drop (k + 1)).head? ≠ some 39
        · rw [textGo_q _ _ _ hend] at hgo
          have Hgo := Lib.hid hgo
          clear hgo
          have step : (k + 1 = s.size) ∨ ∃ h : k + 1 < s.size, s[k + 1] ≠ 39 := by
            rcases Nat.lt_or_ge (k + 1) s.size with h | h
            · right
              refine ⟨h, fun e => hend ?_⟩
              rw [bl_get s (k + 1) h, e]
              rfl
            · left; omega
          clear hend
          have hcase : ∃ b : Bool, ((k : Int) + 1 == (s.size : Int)) = b ∧ (b = false → ∃ h : k + 1 < s.size, ((s[k + 1].toNat : Int) != 39) = true) := by
            rcases step with hlast | ⟨hlt2, hne⟩
            · exact ⟨true, by simp; omega, fun h => by cases h⟩
            · obtain ⟨n1, n2⟩ := byte_no 39 hne
              simp only [show (((39 : UInt8).toNat : Nat) : Int) = 39 from rfl] at n1 n2
              exact ⟨false, by simp; omega, fun _ => ⟨hlt2, n2⟩⟩
          clear step
          obtain ⟨b, hb, hb2⟩ := hcase
          cases b
          · obtain ⟨hlt2, n2⟩ := hb2 rfl
            clear hb2
            by_cases h64 : 64 < acc.length
            · have h64' : decide ((64 : Int) < ((str acc).size : Int)) = true := by rw [Hsz.out]; exact decide_eq_true (by omega)
              go_wp2
              rw [Hgo.out, if_pos h64]
              exact bodyPost_ret (v := .tuple #[.agg #[.int .i64 0, .int .i64 0, .string ⟨#[]⟩, .int .i64 0], .int .i64 0, .int .i64 3]) (by simp [results, Try.results62, go_sem]) rfl ⟨rfl, (Same.refl _ _).alloc _⟩
            · have h64' : decide ((64 : Int) < ((str acc).size : Int)) = false := by rw [Hsz.out]; exact decide_eq_false (by omega)
              go_wp2
              rw [Hgo.out, if_neg h64]
              refine bodyPost_ret (v := .tuple #[.agg #[.int .i64 3, .int .i64 0, .string (str acc), .int .i64 0], .int .i64 (k + 1), .int .i64 0]) (by simp [results, Try.results62, go_sem]) rfl ⟨?_, (Same.refl _ _).alloc _⟩
              have ek : a + (k - a + 1) = k + 1 := by omega
              simp [ek]
          · clear hb2
            by_cases h64 : 64 < acc.length
            · have h64' : decide ((64 : Int) < ((str acc).size : Int)) = true := by rw [Hsz.out]; exact decide_eq_true (by omega)
              go_wp2
              rw [Hgo.out, if_pos h64]
              exact bodyPost_ret (v := .tuple #[.agg #[.int .i64 0, .int .i64 0, .string ⟨#[]⟩, .int .i64 0], .int .i64 0, .int .i64 3]) (by simp [results, Try.results62, go_sem]) rfl ⟨rfl, (Same.refl _ _).alloc _⟩
            · have h64' : decide ((64 : Int) < ((str acc).size : Int)) = false := by rw [Hsz.out]; exact decide_eq_false (by omega)
              go_wp2
              rw [Hgo.out, if_neg h64]
              refine bodyPost_ret (v := .tuple #[.agg #[.int .i64 3, .int .i64 0, .string (str acc), .int .i64 0], .int .i64 (k + 1), .int .i64 0]) (by simp [results, Try.results62, go_sem]) rfl ⟨?_, (Same.refl _ _).alloc _⟩
              have ek : a + (k - a + 1) = k + 1 := by omega
              simp [ek]
        · have hh : ((bl s).drop (k + 1)).head? = some 39 := Classical.not_not.1 hend
          clear hend
          have hlt2 : k + 1 < s.size := by
            rcases Nat.lt_or_ge (k + 1) s.size with h | h
            · exact h
            · rw [List.drop_eq_nil_of_le (by rw [bl_len]; exact h)] at hh; cases hh
          rw [bl_get s (k + 1) hlt2] at hgo hh
          have hq2 : s[k + 1] = 39 := by simpa using hh
          rw [hq2, textGo_qq] at hgo
          obtain ⟨n1, n2⟩ := byte_is 39 hq2
          simp only [show (((39 : UInt8).toNat : Nat) : Int) = 39 from rfl] at n1 n2
          have hadd := add_one acc s (k + 1) hlt2 (by omega) (by omega)
          rw [hq2] at hadd
          have Hgo := Lib.hid hgo
          have e1 : ((k : Int) + 1 == (s.size : Int)) = false := by simp; omega
          clear hgo hh hq2
          go_wp2
          refine ⟨⟨k + 1 + 1, acc ++ [39], by go_num, rfl, by omega, by omega, by simp; omega, ?_⟩, ?_⟩
          · rw [Hgo.out]; congr 1; omega
          · simp [intOf]; omega
      · obtain ⟨q1, q2⟩ := byte_no 39 hq
        simp only [show (((39 : UInt8).toNat : Nat) : Int) = 39 from rfl] at q1 q2
        rw [textGo_c _ _ _ _ hq] at hgo
        have Hgo := Lib.hid hgo
        have hadd := add_one acc s k hlt (by omega) (by omega)
        clear hgo hq
        go_wp2
        refine ⟨⟨k + 1, acc ++ [s[k]], by go_num, rfl, by omega, by omega, by simp; omega, ?_⟩, ?_⟩
        · rw [Hgo.out]; congr 1; omega
        · simp [intOf]; omega
    · rw [List.drop_eq_nil_of_le (by rw [bl_len]; omega)] at hgo
      have hgo' : R = tErr 13 := by rw [hgo]; simp [textGo]
      have Hgo := Lib.hid hgo'
      clear hgo hgo'
      go_wp2
      rw [Hgo.out]
      exact bodyPost_ret (v := .tuple #[.agg #[.int .i64 0, .int .i64 0, .string ⟨#[]⟩, .int .i64 0], .int .i64 0, .int .i64 13]) (by simp [results, Try.results62, go_sem]) rfl ⟨rfl, (Same.refl _ _).alloc _⟩
end Go.Proofs.Ytcckifllammpbaa
