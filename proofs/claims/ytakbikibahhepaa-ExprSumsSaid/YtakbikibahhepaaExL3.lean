/-
  Plain laws of sums; no program in sight.
-/
import Derived.Test.YtakbikibahhepaaExL1
set_option linter.unusedSimpArgs false
set_option linter.unusedVariables false
namespace Go.Proofs.Ytakbikibahhepaa

theorem arE_val (s : List UInt8) (hs : arithB (opk s) = true) (h2 : argsF (opk s) = 2) (a b : Val) (ha : mayV a = true) (hb : mayV b = true) (ka : a.kind = 2 ∨ a.kind = 0) (kb : b.kind = 2 ∨ b.kind = 0) :
    evalTF cols3 zeros (cmpE s a b) = if a.kind = 0 ∨ b.kind = 0 then (.zero, 0) else numF (reckF (opk s) a.n b.n) := by
  have hsm : (smallF (cmpE s a b) 1 0).1 = true := by simp [cmpE, smallF, smallL]
  have ha' : typedF cols3 (.mk 1 [] a []) = (a.kind, 0) := by rw [typedF]; simp [ha]
  have hb' : typedF cols3 (.mk 1 [] b []) = (b.kind, 0) := by rw [typedF]; simp [hb]
  have hop : operF (opk s) [a.kind, b.kind] = (2, 0) := by
    have hk : kAll [a.kind, b.kind] 2 = true := by simp [kAll, ka, kb]
    cases ho : opk s <;> rw [ho] at hs h2 <;> first | (simp [operF, toldF, hk]; done) | (simp [arithB] at hs; done) | (simp [argsF] at h2; done)
  have hev : evalL cols3 zeros [.mk 1 [] a [], .mk 1 [] b []] = .ok [a, b] := by simp [evalL, evalF]
  have hdo : doesF (opk s) [a, b] = if a.kind = 0 ∨ b.kind = 0 then (.zero, 0) else numF (reckF (opk s) a.n b.n) := by
    cases ho : opk s <;> rw [ho] at hs h2 <;> first | rfl | (simp [arithB] at hs; done) | (simp [argsF] at h2; done)
  have hty : typedF cols3 (cmpE s a b) = (2, 0) := by
    unfold cmpE
    rw [typedF]
    simp only [typedL, ha', hb']
    simp [Val.zero, hop]
  unfold evalTF typeF
  rw [hsm, if_pos rfl, hty, mayRow_zeros, if_pos rfl]
  have hE : evalF cols3 zeros (cmpE s a b) = doesF (opk s) [a, b] := by
    unfold cmpE
    rw [evalF, hev]
    simp
  rw [hE, hdo]
  simp
def negE (a : Val) : Ex := .mk 3 [78, 69, 71] .zero [.mk 1 [] a []]
theorem negE_val (a : Int) : evalTF cols3 zeros (negE ⟨2, a, []⟩) = numF (fitF (-a)) := by
  have hsm : (smallF (negE ⟨2, a, []⟩) 1 0).1 = true := by simp [negE, smallF, smallL]
  have ha' : typedF cols3 (.mk 1 [] ⟨2, a, []⟩ []) = (2, 0) := by rw [typedF]; simp [mayV]
  have hty : typedF cols3 (negE ⟨2, a, []⟩) = (2, 0) := by
    unfold negE
    rw [typedF]
    simp only [typedL, ha']
    simp [opk, operF, toldF, kAll]
  have hev : evalL cols3 zeros [.mk 1 [] ⟨2, a, []⟩ []] = .ok [⟨2, a, []⟩] := by simp [evalL, evalF]
  unfold evalTF typeF
  rw [hsm, if_pos rfl, hty, mayRow_zeros, if_pos rfl]
  unfold negE
  rw [evalF, hev]
  simp [opk, doesF]
theorem num_fit (n : Int) : numF (fitF n) = if -9223372036854775808 ≤ n ∧ n ≤ 9223372036854775807 then (⟨2, n, []⟩, 0) else (.zero, 5) := by
  rw [fit_if]
  split <;> simp [numF]
/-- What ExprSums needs of its five values. -/
structure SumFacts (a b : Int) (S D Q R N : Val × Int) : Prop where
  s1 : -9223372036854775808 ≤ a + b ∧ a + b ≤ 9223372036854775807 → S = (⟨2, a + b, []⟩, 0) ∧ D = (⟨2, a, []⟩, 0)
  s2 : ¬ (-9223372036854775808 ≤ a + b ∧ a + b ≤ 9223372036854775807) → S = (.zero, 5) ∧ D = (.zero, 0)
  q0 : b = 0 → Q = (.zero, 17) ∧ R = (.zero, 17)
  q1 : a = -9223372036854775808 → b = -1 → Q = (.zero, 5)
  q2 : b ≠ 0 → ¬ (a = -9223372036854775808 ∧ b = -1) → Q = (⟨2, a.tdiv b, []⟩, 0)
  r1 : b ≠ 0 → R = (⟨2, a.tmod b, []⟩, 0)
  n1 : a = -9223372036854775808 → N = (.zero, 5)
  n2 : a ≠ -9223372036854775808 → N = (⟨2, -a, []⟩, 0)
theorem sum_facts (a b : Int) (ha : i64B a = true) (hb : i64B b = true) : SumFacts a b (evalTF cols3 zeros (cmpE [43] ⟨2, a, []⟩ ⟨2, b, []⟩)) (evalTF cols3 zeros (cmpE [45] (evalTF cols3 zeros (cmpE [43] ⟨2, a, []⟩ ⟨2, b, []⟩)).1 ⟨2, b, []⟩))
    (evalTF cols3 zeros (cmpE [47] ⟨2, a, []⟩ ⟨2, b, []⟩)) (evalTF cols3 zeros (cmpE [37] ⟨2, a, []⟩ ⟨2, b, []⟩)) (evalTF cols3 zeros (negE ⟨2, a, []⟩)) := by
  have hS : evalTF cols3 zeros (cmpE [43] ⟨2, a, []⟩ ⟨2, b, []⟩) = numF (fitF (a + b)) := (arE_val [43] rfl rfl _ _ rfl rfl (.inl rfl) (.inl rfl)).trans (by simp [opk, reckF])
  have hQ : evalTF cols3 zeros (cmpE [47] ⟨2, a, []⟩ ⟨2, b, []⟩) = numF (if b = 0 then (0, 17) else fitF (a.tdiv b)) := (arE_val [47] rfl rfl _ _ rfl rfl (.inl rfl) (.inl rfl)).trans (by simp [opk, reckF])
  have hR : evalTF cols3 zeros (cmpE [37] ⟨2, a, []⟩ ⟨2, b, []⟩) = numF (if b = 0 then (0, 17) else (a.tmod b, 0)) := (arE_val [37] rfl rfl _ _ rfl rfl (.inl rfl) (.inl rfl)).trans (by simp [opk, reckF])
  have ha' := ha
  simp only [i64B, Bool.and_eq_true, decide_eq_true_eq] at ha hb
  obtain ⟨ha1, ha2⟩ := ha
  obtain ⟨hb1, hb2⟩ := hb
  rw [hS, hQ, hR, negE_val, num_fit, num_fit]
  constructor
  · intro h
    rw [if_pos h]
    refine ⟨rfl, ?_⟩
    refine (arE_val [45] rfl rfl _ _ rfl rfl (.inl rfl) (.inl rfl)).trans ?_
    have e : a + b - b = a := by omega
    have : numF (fitF (a + b - b)) = (⟨2, a, []⟩, 0) := by rw [e, num_fit, if_pos ⟨ha1, ha2⟩]
    simpa [opk, reckF] using this
  · intro h
    rw [if_neg h]
    exact ⟨rfl, (arE_val [45] rfl rfl _ _ rfl rfl (.inr rfl) (.inl rfl)).trans (by simp [Val.zero])⟩
  · intro h; simp [h, numF]
  · intro h1 h2; subst h1 h2; rw [if_neg (by decide), num_fit]; rfl
  · intro h1 h2
    rw [if_neg h1, num_fit]
    by_cases hm : b = -1
    · subst hm
      have e : a.tdiv (-1) = -a := by rw [Int.tdiv_neg, Int.tdiv_one]
      rw [e, if_pos (by have : ¬ a = -9223372036854775808 := fun h => h2 ⟨h, rfl⟩; omega)]
    · rw [if_pos (tdiv_fit ha' h1 hm)]
  · intro h1; rw [if_neg h1]; simp [numF]
  · intro h1; subst h1; rw [if_neg (by omega)]
  · intro h1; rw [if_pos (by omega)]
theorem sum_back {a b : Int} (ha : i64B a = true) (hb : i64B b = true) (h0 : b ≠ 0) : -9223372036854775808 ≤ a.tdiv b * b ∧ a.tdiv b * b ≤ 9223372036854775807 ∧ a.tdiv b * b + a.tmod b = a ∧ (a.tmod b = 0 ∨ (a.tmod b < 0 ↔ a < 0)) := by
  simp only [i64B, Bool.and_eq_true, decide_eq_true_eq] at ha hb
  obtain ⟨ha1, ha2⟩ := ha
  have e : a.tdiv b * b + a.tmod b = a := by have := Int.mul_tdiv_add_tmod a b; rw [Int.mul_comm] at this; exact this
  have hs : a.tmod b = 0 ∨ (a.tmod b < 0 ↔ a < 0) := by
    by_cases h : 0 ≤ a
    · have := Int.tmod_nonneg b h
      by_cases hz : a.tmod b = 0
      · exact .inl hz
      · right; omega
    · have h1 : a.tmod b ≤ 0 := by
        have := Int.tmod_nonneg b (show 0 ≤ -a by omega)
        rw [Int.neg_tmod] at this
        omega
      by_cases hz : a.tmod b = 0
      · exact .inl hz
      · right; omega
  have hm : (a.tmod b).natAbs ≤ a.natAbs := by rw [Int.natAbs_tmod]; exact Nat.mod_le _ _
  generalize a.tdiv b * b = p at *
  generalize a.tmod b = r at *
  refine ⟨?_, ?_, e, hs⟩ <;> rcases hs with h | h <;> omega
end Go.Proofs.Ytakbikibahhepaa
