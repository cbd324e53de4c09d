/-
  The walks of package lex: numbers, texts, signs, the token at a beginning.
-/
import Derived.Test.YtcckifllammpbaaLexV
set_option linter.unusedSimpArgs false
set_option linter.unusedVariables false
namespace Go.Proofs.Ytcckifllammpbaa
open Go.RowKit

theorem dropWhile_run (p : UInt8 → Bool) : ∀ l : List UInt8, l.dropWhile p = l.drop (runF p l)
  | [] => rfl
  | c :: l => by
    simp only [List.dropWhile_cons, runF, List.takeWhile_cons]
    split
    · simp only [List.length_cons, List.drop_succ_cons]
      exact dropWhile_run p l
    · rfl
theorem take_run (p : UInt8 → Bool) : ∀ l : List UInt8, l.takeWhile p = l.take (runF p l)
  | [] => rfl
  | c :: l => by
    simp only [runF, List.takeWhile_cons]
    split
    · simp only [List.length_cons, List.take_succ_cons]
      congr 1
      exact take_run p l
    · rfl
theorem takeWhile_mem (p : UInt8 → Bool) : ∀ (l : List UInt8) (x : UInt8), x ∈ l.takeWhile p → p x = true
  | [], x, h => by simp at h
  | c :: l, x, h => by
    simp only [List.takeWhile_cons] at h
    split at h
    · rename_i hc
      rcases List.mem_cons.1 h with rfl | h
      · exact hc
      · exact takeWhile_mem p l x h
    · simp at h
theorem run_all (p : UInt8 → Bool) (l : List UInt8) (k : Nat) (hk : k < runF p l) (hl : k < l.length) : p l[k] = true := by
  have h1 : l[k] ∈ l.take (runF p l) := by
    rw [List.mem_take_iff_getElem]
    exact ⟨k, by omega, rfl⟩
  rw [← take_run] at h1
  exact takeWhile_mem p l _ h1
/-- The digits from the k-th on. -/
theorem digs_step (s : ByteArray) (k : Nat) (hk : k < runF isDig (bl s)) (hs : k < s.size) : ((bl s).takeWhile isDig).drop k = s[k] :: ((bl s).takeWhile isDig).drop (k + 1) ∧ isDig s[k] = true := by
  have hl : k < (bl s).length := by rw [bl_len]; exact hs
  refine ⟨?_, run_all isDig (bl s) k hk hl⟩
  rw [take_run, List.drop_eq_getElem_cons (by rw [List.length_take]; omega)]
  congr 1
  rw [List.getElem_take]
  rfl
theorem digs_end (s : ByteArray) : ((bl s).takeWhile isDig).drop (runF isDig (bl s)) = [] := List.drop_eq_nil_of_le (Nat.le_refl _)
def TokP (r : TRes) (w : World) (e : Ending) (w' : World) : Prop :=
  e = .returned (.tuple #[.agg #[.int .i64 r.t.kind, .int .i64 0, .string (str r.t.s), .int .i64 r.t.n], .int .i64 r.n, .int .i64 r.e]) ∧ Same (fun _ => True) w w'
theorem numF_big {s : ByteArray} (h : numGo 0 ((bl s).takeWhile isDig) = none) : numF (bl s) = tErr 5 := by unfold numF; rw [h]
theorem numF_let {s : ByteArray} {v : Nat} (h : numGo 0 ((bl s).takeWhile isDig) = some v) (hn : runF isDig (bl s) < s.size) : numF (bl s) = if isLet s[runF isDig (bl s)] then tErr 13 else ⟨⟨2, [], v⟩, runF isDig (bl s), 0⟩ := by
  unfold numF
  rw [h, dropWhile_run, bl_get s _ hn]
  rfl
theorem numF_end {s : ByteArray} {v : Nat} (h : numGo 0 ((bl s).takeWhile isDig) = some v) (hn : ¬ runF isDig (bl s) < s.size) : numF (bl s) = ⟨⟨2, [], v⟩, runF isDig (bl s), 0⟩ := by
  unfold numF
  rw [h, dropWhile_run, List.drop_eq_nil_of_le (by rw [bl_len]; omega)]
  rfl
theorem numGo_no {v : Nat} {c : UInt8} {l : List UInt8} (h : (9223372036854775807 - (n8 c - 48)) / 10 < (v : Int)) (hc : isDig c = true) : numGo v (c :: l) = none := by
  have h1 := isDig_eq c
  rw [hc] at h1
  simp only [Bool.true_eq, Bool.and_eq_true, decide_eq_true_eq] at h1
  unfold n8 at h1 h
  unfold numGo maxI
  rw [if_pos (by omega)]
theorem numGo_yes {v : Nat} {c : UInt8} {l : List UInt8} (h : (v : Int) ≤ (9223372036854775807 - (n8 c - 48)) / 10) (hc : isDig c = true) :
    ∃ v' : Nat, numGo v (c :: l) = numGo v' l ∧ (v' : Int) = 10 * v + (n8 c - 48) ∧ (v' : Int) ≤ 9223372036854775807 := by
  have h1 := isDig_eq c
  rw [hc] at h1
  simp only [Bool.true_eq, Bool.and_eq_true, decide_eq_true_eq] at h1
  unfold n8 at h1 h
  refine ⟨10 * v + (c.toNat - 48), ?_, ?_, ?_⟩
  · conv => lhs; unfold numGo
    unfold maxI
    rw [if_neg (by omega)]
  · unfold n8; omega
  · omega
theorem isDig_bd {c : UInt8} (h : isDig c = true) : 48 ≤ n8 c ∧ n8 c ≤ 57 := by
  have h1 := isDig_eq c
  rw [h] at h1
  simpa using h1

set_option maxHeartbeats 1000000 in
theorem lexnumber_any (s : ByteArray) (w : World) (hs : s.size ≤ 100000) :
    Calls Try.prog 58 #[.string s] w (TokP (numF (bl s)) w) := by
  have hn := runF_le isDig (bl s)
  rw [bl_len] at hn
  go_enter Try.func58, Try.ntmps58
  go_wp2_with (go_at_call 38; refine (lexrund_any s _ (by unfold maxLen; omega)).mono ?_; rintro e w' ⟨rfl, rfl⟩)
  go_loop [6, 7, 8, 12] (fun v _ _ i => ∃ k vv : Nat, k ≤ runF isDig (bl s) ∧ i = .int .i64 k ∧ v = .int .i64 vv ∧ (vv : Int) ≤ 9223372036854775807 ∧ numGo 0 ((bl s).takeWhile isDig) = numGo vv (((bl s).takeWhile isDig).drop k)) (fun _ _ _ i => runF isDig (bl s) - (intOf i).toNat)
  case atStart => exact ⟨0, 0, Nat.zero_le _, rfl, rfl, by omega, by simp⟩
  case round =>
    obtain ⟨k, v, hk, rfl, rfl, hv, hrun⟩ := hrel
    by_cases hlt : k < runF isDig (bl s)
    · have hks : k < s.size := by omega
      obtain ⟨hd1, hd2⟩ := digs_step s k hlt hks
      rw [hd1] at hrun
      obtain ⟨b1, b2⟩ := isDig_bd hd2
      have b1' : 48 ≤ (s[k].toNat : Int) := b1
      have b2' : (s[k].toNat : Int) ≤ 57 := b2
      by_cases hbig : (9223372036854775807 - (n8 s[k] - 48)) / 10 < (v : Int)
      · have hno := numF_big (hrun.trans (numGo_no hbig hd2))
        have HN := Lib.hid hno
        have hbig' : (9223372036854775807 - ((s[k].toNat : Int) - 48)) / 10 < (v : Int) := hbig
        clear hrun hd1 hd2 hno hbig b1 b2
        go_wp2
        rw [HN.out]
        exact bodyPost_ret (v := .tuple #[.agg #[.int .i64 0, .int .i64 0, .string ⟨#[]⟩, .int .i64 0], .int .i64 0, .int .i64 5]) (by simp [results, Try.results58, go_sem]) rfl ⟨rfl, (Same.refl _ _).alloc _⟩
      · obtain ⟨v', e1, e2, e3⟩ := numGo_yes (l := ((bl s).takeWhile isDig).drop (k + 1)) (Int.not_lt.1 hbig) hd2
        have HR := Lib.hid (hrun.trans e1)
        have hbig' : (v : Int) ≤ (9223372036854775807 - ((s[k].toNat : Int) - 48)) / 10 := Int.not_lt.1 hbig
        have e2' : (v' : Int) = 10 * v + ((s[k].toNat : Int) - 48) := e2
        have hb3 : 10 * (v : Int) + ((s[k].toNat : Int) - 48) ≤ 9223372036854775807 := by omega
        have E2 := Lib.hid e2'
        clear hrun hd1 hd2 hbig b1 b2 e1 e2 e2'
        go_wp2
        refine ⟨⟨k + 1, v', by omega, by go_num, by rw [E2.out], e3, HR.out⟩, ?_⟩
        simp [intOf]; omega
    · obtain rfl : k = runF isDig (bl s) := by omega
      rw [digs_end] at hrun
      have hsome : numGo 0 ((bl s).takeWhile isDig) = some v := hrun
      by_cases hn2 : runF isDig (bl s) < s.size
      · have hnum := numF_let hsome hn2
        have HN := Lib.hid hnum
        have g := lexletter_any s[runF isDig (bl s)] (w.alloc (.cells #[.int .i64 0, .int .i64 0, .string ⟨#[]⟩, .int .i64 0] 28))
        clear hrun hsome hnum
        cases hl : isLet s[runF isDig (bl s)]
        · rw [hl] at g HN
          clear hl
          go_wp2_with (go_at_call 57; refine g.mono ?_; rintro e w' ⟨rfl, rfl⟩)
          rw [HN.out]
          exact bodyPost_ret (v := .tuple #[.agg #[.int .i64 2, .int .i64 0, .string ⟨#[]⟩, .int .i64 v], .int .i64 (runF isDig (bl s)), .int .i64 0]) (by simp [results, Try.results58, go_sem]) rfl ⟨rfl, (Same.refl _ _).alloc _⟩
        · rw [hl] at g HN
          clear hl
          go_wp2_with (go_at_call 57; refine g.mono ?_; rintro e w' ⟨rfl, rfl⟩)
          rw [HN.out]
          exact bodyPost_ret (v := .tuple #[.agg #[.int .i64 0, .int .i64 0, .string ⟨#[]⟩, .int .i64 0], .int .i64 0, .int .i64 13]) (by simp [results, Try.results58, go_sem]) rfl ⟨rfl, (Same.refl _ _).alloc _⟩
      · have hnum := numF_end hsome hn2
        have HN := Lib.hid hnum
        clear hrun hsome hnum
        go_wp2
        rw [HN.out]
        exact bodyPost_ret (v := .tuple #[.agg #[.int .i64 2, .int .i64 0, .string ⟨#[]⟩, .int .i64 v], .int .i64 (runF isDig (bl s)), .int .i64 0]) (by simp [results, Try.results58, go_sem]) rfl ⟨rfl, (Same.refl _ _).alloc _⟩
end Go.Proofs.Ytcckifllammpbaa
