/-
  The walks of layer 16's laws: what each begins with; LexWords.
-/
import Derived.Test.YtcckifllammpbaaLexE
import Derived.Test.YtcckifllammpbaaLibS
set_option linter.unusedSimpArgs false
set_option linter.unusedVariables false
namespace Go.Proofs.Ytcckifllammpbaa
open Go.RowKit Go.ChangeShapes Go.WideShapes Go.ChangeAt

theorem flat_get : ∀ (l : List (Nat × Tok)) (i j : Nat) (h : i < l.length), j < 4 → (l.flatMap tokCs)[i * 4 + j]? = (tokCs l[i])[j]?
  | [], i, j, h, _ => absurd h (Nat.not_lt_zero _)
  | x :: l, 0, j, _, hj => by
    rw [List.flatMap_cons, List.getElem?_append_left (by simp [tokCs]; omega)]
    simp
  | x :: l, i + 1, j, h, hj => by
    rw [List.flatMap_cons, List.getElem?_append_right (by simp [tokCs]; omega)]
    have := flat_get l i j (by simpa using h) hj
    simp only [tokCs, List.length_cons, List.length_nil] at this ⊢
    rw [show (i + 1) * 4 + j - (0 + 1 + 1 + 1 + 1) = i * 4 + j from by omega]
    simpa using this
/-- A row of tokens: its block. -/
theorem OwnT.row {w : World} {B : Nat} {v : Value} {l : List (Nat × Tok)} (h : OwnT w B v l) (hne : 0 < l.length) :
    ∃ g cap cur, v = .slice (some ⟨g, 0, none⟩) l.length cap ∧ B ≤ g ∧ Row w g 28 cur ∧ l.length ≤ cap ∧ cap ≤ maxLen ∧ cur.length = cap * 4 ∧ ∀ i j (_ : i < l.length), j < 4 → cur[i * 4 + j]? = (tokCs l[i])[j]? := by
  rcases ownsRow_row h with ⟨_, h0, _⟩ | ⟨g, cap, cur, h1, h2, h3, h4, h5, h6, h7⟩
  · omega
  · refine ⟨g, cap, cur, h1, h2, h3, h4, h5, h6, fun i j hi hj => ?_⟩
    rw [← flat_get l i j hi hj, ← h7, List.getElem?_take, if_pos (by omega)]
theorem lexF_begun : lexF [97, 60, 61, 53] = (0, [(0, ⟨1, [65], 0⟩), (1, ⟨4, [60, 61], 0⟩), (3, ⟨2, [], 5⟩), (4, ⟨0, [], 0⟩)]) := by
  have t1 : tokF [97, 60, 61, 53] = ⟨⟨1, [65], 0⟩, 1, 0⟩ := by decide +kernel
  have t2 : tokF [60, 61, 53] = ⟨⟨4, [60, 61], 0⟩, 2, 0⟩ := by decide +kernel
  have t3 : tokF [53] = ⟨⟨2, [], 5⟩, 1, 0⟩ := by decide +kernel
  unfold lexF
  rw [lexFrom_go (i := 0) (by simp) (by rw [t1]), t1]
  simp only [List.drop_succ_cons, List.drop_zero, Nat.zero_add]
  rw [lexFrom_go (i := 1) (by simp) (by rw [t2]), t2]
  simp only [List.drop_succ_cons, List.drop_zero, Nat.reduceAdd]
  rw [lexFrom_go (i := 3) (by simp) (by rw [t3]), t3]
  simp [lexFrom_nil]
set_option maxHeartbeats 1000000 in
theorem lexbegun_any (w : World) (hm : Mx w) : Calls Try.prog 14 #[] w (TrueP w) := by
  have hw1 : wordF (bl ⟨#[84, 49]⟩) = true := by decide +kernel
  have hw2 : wordF (bl ⟨#[83, 69, 76, 69, 67, 84]⟩) = false := by decide +kernel
  have Hw1 := Lib.hid hw1
  have Hw2 := Lib.hid hw2
  clear hw1 hw2
  go_enter Try.func14, Try.ntmps14
  go_wp2_with (go_at_call 15; refine stopAt ?_)
  unfold Hid
  refine (lexlex_any _ _ (by decide)).mono ?_
  rw [show bl ⟨#[97, 60, 61, 53]⟩ = [97, 60, 61, 53] from rfl, lexF_begun]
  rintro e w1 ⟨v, rfl, hown, hS⟩
  obtain ⟨g, cap, cur, rfl, hg, hrow, h1, h2, h3, h4⟩ := hown.row (by simp)
  have c0 := (hrow.cell 2).trans (h4 0 2 (by simp) (by omega))
  have c1 := (hrow.cell 6).trans (h4 1 2 (by simp) (by omega))
  have c2 := (hrow.cell 11).trans (h4 2 3 (by simp) (by omega))
  have c3 := (hrow.cell 13).trans (h4 3 1 (by simp) (by omega))
  simp [tokCs] at c0 c1 c2 c3
  have l1 : (str [65]).toList = [65] := by rw [ByteArray.toList_eq]; rfl
  have l2 : (str [60, 61]).toList = [60, 61] := by rw [ByteArray.toList_eq]; rfl
  have hm1 := hm.keep hS
  simp at h1
  clear hown hrow h4
  unfold maxLen at h2
  go_wp2_with (go_at_call 17; refine stopAt ?_)
  unfold Hid
  refine (lexword_any _ _ (by decide) hm1).mono ?_
  rw [Hw1.out]
  rintro e w2 ⟨rfl, hS2⟩
  have hm2 := hm1.keep hS2
  go_wp2_with (go_at_call 17; refine stopAt ?_)
  unfold Hid
  refine (lexword_any _ _ (by decide) hm2).mono ?_
  rw [Hw2.out]
  rintro e w3 ⟨rfl, hS3⟩
  go_wp2
  go_ret
  exact ⟨rfl, (hS.trans hS2).trans hS3⟩
set_option maxHeartbeats 1000000 in
theorem lexwords_walk (s : ByteArray) (w : World) (hm : Mx w) : Calls Try.prog 4 #[.string s] w (TrueP w) := by
  by_cases h : 1000 < s.size
  · have d1 : decide ((1000 : Int) < s.size) = true := decide_eq_true (by omega)
    go_enter Try.func4, Try.ntmps4
    go_wp2_with (go_at_call 14; refine (lexbegun_any _ hm).mono ?_; rintro e w1 ⟨rfl, hS1⟩)
    go_ret
    exact ⟨rfl, hS1⟩
  · have d1 : decide ((1000 : Int) < s.size) = false := decide_eq_false (by omega)
    obtain ⟨B, hB⟩ : ∃ B, wordF (bl s) = B := ⟨_, rfl⟩
    have HB := Lib.hid hB
    clear hB
    go_enter Try.func4, Try.ntmps4
    go_wp2_with (first | (go_at_call 14; refine (lexbegun_any _ hm).mono ?_; rintro e w1 ⟨rfl, hS1⟩; have hm1 := hm.keep hS1) | (go_at_call 17; refine (lexword_any s _ (by omega) hm1).mono ?_; rw [HB.out]; rintro e w2 ⟨rfl, hS2⟩) | (go_at_call 18; refine (refword_any s _ (by omega)).mono ?_; rw [HB.out]; rintro e w3 ⟨rfl, hS3⟩))
    go_ret
    exact ⟨by simp, (hS1.trans hS2).trans hS3⟩
end Go.Proofs.Ytcckifllammpbaa
