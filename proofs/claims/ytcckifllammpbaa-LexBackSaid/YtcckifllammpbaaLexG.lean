/-
  Plain laws of names: which texts are reserved words; no program in sight.
-/
import Derived.Test.YtcckifllammpbaaLexP
import Derived.Lib.IndexMore
set_option linter.unusedSimpArgs false
set_option linter.unusedVariables false
namespace Go.Proofs.Ytcckifllammpbaa

theorem contains_nil (sub : List UInt8) (h : sub ≠ []) : Lib.contains [] sub = false := by
  cases sub with
  | nil => exact absurd rfl h
  | cons a t => rfl
theorem contains_cons (b : UInt8) (l sub : List UInt8) : Lib.contains (b :: l) sub = (sub.isPrefixOf (b :: l) || Lib.contains l sub) := by
  unfold Lib.contains
  conv => lhs; unfold Lib.index
  have hg := Lib.index_ge l sub
  by_cases h : sub.isPrefixOf (b :: l) = true
  · rw [if_pos h, h]; rfl
  · have h' : sub.isPrefixOf (b :: l) = false := Bool.eq_false_iff.2 h
    rw [h', Bool.false_or]
    simp only [if_false, Bool.false_eq_true]
    by_cases h1 : Lib.index l sub = -1
    · rw [h1]; rfl
    · have h2 : (Lib.index l sub == -1) = false := by rw [beq_eq_false_iff_ne]; exact h1
      simp only [h2, if_false, Bool.false_eq_true]
      rw [decide_eq_decide]
      omega
def noBl (w : List UInt8) : Bool := w.all fun c => c != 32
theorem contains_skip (t rest : List UInt8) : ∀ w : List UInt8, noBl w = true → Lib.contains (w ++ rest) (32 :: t) = Lib.contains rest (32 :: t)
  | [], _ => rfl
  | c :: w, h => by
    simp only [noBl, List.all_cons, Bool.and_eq_true] at h
    rw [List.cons_append, contains_cons, contains_skip t rest w h.2]
    have : (32 == c) = false := by
      have := h.1
      simp at this ⊢
      exact fun e => this e.symm
    simp [List.isPrefixOf, this]
theorem prefix_words (rest : List UInt8) : ∀ s w : List UInt8, noBl s = true → noBl w = true → (s ++ [32]).isPrefixOf (w ++ 32 :: rest) = (s == w)
  | [], [], _, _ => by simp [List.isPrefixOf]
  | [], c :: w, _, hw => by
    simp only [noBl, List.all_cons, Bool.and_eq_true] at hw
    have : (32 == c) = false := by
      have := hw.1
      simp at this ⊢
      exact fun e => this e.symm
    simp [List.isPrefixOf, this]
  | a :: s, [], hs, _ => by
    simp only [noBl, List.all_cons, Bool.and_eq_true] at hs
    have : (a == 32) = false := by
      have := hs.1
      simpa using this
    simp [List.isPrefixOf, this]
  | a :: s, c :: w, hs, hw => by
    simp only [noBl, List.all_cons, Bool.and_eq_true] at hs hw
    have ih := prefix_words rest s w hs.2 hw.2
    simp only [List.cons_append, List.isPrefixOf, ih]
    rfl
def joinW (ws : List (List UInt8)) : List UInt8 := 32 :: ws.flatMap fun w => w ++ [32]
theorem joinW_cons (w : List UInt8) (ws : List (List UInt8)) : joinW (w :: ws) = 32 :: (w ++ joinW ws) := by simp [joinW]
theorem contains_words (s : List UInt8) (hs : noBl s = true) : ∀ ws : List (List UInt8), ws.all noBl = true → Lib.contains (joinW ws) (32 :: s ++ [32]) = ws.contains s
  | [], _ => by
    rw [List.cons_append]
    show Lib.contains [32] _ = _
    rw [contains_cons, contains_nil _ (by simp)]
    cases s <;> simp [List.isPrefixOf]
  | w :: ws, h => by
    simp only [List.all_cons, Bool.and_eq_true] at h
    rw [List.cons_append, joinW_cons, contains_cons, contains_skip _ _ w h.1]
    have ih := contains_words s hs ws h.2
    rw [List.cons_append] at ih
    rw [ih, List.contains_cons]
    have : joinW ws = 32 :: ws.flatMap fun w => w ++ [32] := rfl
    rw [this]
    simp only [List.isPrefixOf, BEq.rfl, Bool.true_and]
    rw [prefix_words _ s w hs h.1]
/-- The reserved words. -/
def resW : List (List UInt8) := [[65, 76, 76], [65, 78, 68], [65, 83], [65, 83, 67], [66, 69, 84, 87, 69, 69, 78], [66, 79, 85, 78, 68], [66, 89], [67, 79, 85, 78, 84], [68, 69, 76, 69, 84, 69], [68, 69, 83, 67], [69, 88, 65, 67, 84], [70, 65, 76, 83, 69], [70, 82, 79, 77], [73, 78, 83, 69, 82, 84], [73, 78, 84, 79], [73, 83], [76, 73, 77, 73, 84], [78, 79, 84], [78, 85, 76, 76], [78, 79, 87], [79, 70], [79, 82], [79, 82, 68, 69, 82], [83, 69, 76, 69, 67, 84], [83, 69, 84], [83, 85, 77], [83, 89, 83, 84, 69, 77], [84, 73, 77, 69], [84, 82, 85, 69], [85, 80, 68, 65, 84, 69], [86, 65, 76, 85, 69, 83], [87, 72, 69, 82, 69]]
theorem resW_all : resW.all noBl = true := by decide +kernel
def wordF (s : List UInt8) : Bool := decide (s.length ≤ 16) && wordOk s && !resW.contains s
theorem wordy_noBl {s : List UInt8} (h : s.all isWordy = true) : noBl s = true := by
  unfold noBl
  rw [List.all_eq_true] at h ⊢
  intro c hc
  have h1 := h c hc
  have := u8_all (p := fun c => !isWordy c || (c != 32)) (by decide +kernel) c
  rw [h1] at this
  simpa using this
theorem runF_all (p : UInt8 → Bool) : ∀ s : List UInt8, (runF p s = s.length) ↔ s.all p = true
  | [] => by simp [runF]
  | c :: s => by
    have ih := runF_all p s
    cases h : p c
    · simp [runF, List.takeWhile_cons, h]
    · simp only [runF, List.takeWhile_cons, h, if_true, List.length_cons, List.all_cons, Bool.true_and]
      rw [← ih]
      unfold runF
      omega
end Go.Proofs.Ytcckifllammpbaa
