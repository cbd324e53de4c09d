/-
  Plain laws of comparisons; no program in sight.
-/
import Derived.Test.YtakbikibahhepaaExW16
set_option linter.unusedSimpArgs false
set_option linter.unusedVariables false
namespace Go.Proofs.Ytakbikibahhepaa

theorem sgn_swap (a b : Int) : sgn b a = -sgn a b := by unfold sgn; split <;> (try split) <;> omega
theorem cmpB_swap (a b : List UInt8) : Lib.compareBytes b a = -Lib.compareBytes a b := by
  rw [cmpB_eq, cmpB_eq]
  rcases ltB_tri a b with h | h | h
  · have h2 := ltB_asymm h
    have h3 : ¬ b = a := fun e => ltB_ne h e.symm
    simp [h, h2, h3]
  · subst h; simp [ltB_irrefl]
  · have h2 := ltB_asymm h
    have h3 : ¬ a = b := fun e => ltB_ne h e.symm
    simp [h, h2, h3]
theorem cmpV_swap (a b : Val) : cmpV b a = -cmpV a b := by
  unfold cmpV
  rw [sgn_swap a.kind b.kind, sgn_swap a.n b.n, cmpB_swap a.s b.s]
  by_cases h1 : sgn a.kind b.kind = 0 <;> by_cases h2 : sgn a.n b.n = 0 <;> simp [h1, h2]
theorem cmpV_zero (a b : Val) : cmpV a b = 0 ↔ a = b := by
  unfold cmpV
  by_cases h1 : sgn a.kind b.kind = 0
  · by_cases h2 : sgn a.n b.n = 0
    · have h3 := cmpB_zero a.s b.s
      have e1 := sgn_eq.1 h1
      have e2 := sgn_eq.1 h2
      simp only [h1, h2, ne_eq, not_true_eq_false, if_false]
      constructor
      · intro h
        have : decide (a.s = b.s) = true := by rw [← h3, h]; rfl
        have e3 : a.s = b.s := by simpa using this
        cases a; cases b; simp_all
      · rintro rfl
        have : (Lib.compareBytes a.s a.s == 0) = true := by rw [h3]; simp
        simpa using this
    · rw [if_neg (fun h => h h1), if_pos h2]
      constructor
      · intro h; exact absurd h h2
      · rintro rfl; exact sgn_eq.2 rfl
  · rw [if_pos h1]
    constructor
    · intro h; exact absurd h h1
    · rintro rfl; exact sgn_eq.2 rfl
def cmpE (s : List UInt8) (a b : Val) : Ex := .mk 3 s .zero [.mk 1 [] a [], .mk 1 [] b []]
def cmpO (o : Opk) : Bool := match o with | .eq | .ne | .lt | .le | .gt | .ge => true | _ => false
def cmpRes (o : Opk) (a b : Val) : Val × Int :=
  if mayV a = false ∨ mayV b = false then (.zero, 9) else if a.kind ≠ b.kind ∧ a.kind ≠ 0 ∧ b.kind ≠ 0 then (.zero, 15) else if a.kind = 0 ∨ b.kind = 0 then (.zero, 0) else (truthV (holdsF o (cmpV a b)), 0)
theorem mayRow_zeros : mayRowB cols3 zeros = true := by decide
theorem cmpE_val (s : List UInt8) (hs : cmpO (opk s) = true) (a b : Val) : evalTF cols3 zeros (cmpE s a b) = cmpRes (opk s) a b := by
  have hsm : (smallF (cmpE s a b) 1 0).1 = true := by simp [cmpE, smallF, smallL]
  have ha : typedF cols3 (.mk 1 [] a []) = if mayV a = false then (0, 9) else (a.kind, 0) := by rw [typedF]; simp
  have hb : typedF cols3 (.mk 1 [] b []) = if mayV b = false then (0, 9) else (b.kind, 0) := by rw [typedF]; simp
  have hop : operF (opk s) [a.kind, b.kind] = toldF true (pairB [a.kind, b.kind]) 1 := by
    cases ho : opk s <;> rw [ho] at hs <;> first | rfl | (simp [cmpO] at hs)
  have hev : evalL cols3 zeros [.mk 1 [] a [], .mk 1 [] b []] = .ok [a, b] := by simp [evalL, evalF]
  have hdo : doesF (opk s) [a, b] = if a.kind = 0 ∨ b.kind = 0 then (.zero, 0) else (truthV (holdsF (opk s) (cmpV a b)), 0) := by
    cases ho : opk s <;> rw [ho] at hs <;> first | rfl | (simp [cmpO] at hs)
  have hty : typedF cols3 (cmpE s a b) = if mayV a = false ∨ mayV b = false then (0, 9) else toldF true (pairB [a.kind, b.kind]) 1 := by
    unfold cmpE
    rw [typedF]
    simp only [typedL, ha, hb]
    cases h1 : mayV a <;> cases h2 : mayV b <;> simp [Val.zero, hop]
  unfold evalTF typeF
  rw [hsm, if_pos rfl, hty, mayRow_zeros, if_pos rfl]
  unfold cmpRes
  by_cases h1 : mayV a = false ∨ mayV b = false
  · simp [h1]
  · rw [if_neg h1, if_neg h1]
    have hE : evalF cols3 zeros (cmpE s a b) = doesF (opk s) [a, b] := by
      unfold cmpE
      rw [evalF, hev]
      simp
    rw [hE, hdo]
    by_cases h2 : a.kind ≠ b.kind ∧ a.kind ≠ 0 ∧ b.kind ≠ 0
    · simp [h2, toldF, pairB]
    · rw [if_neg h2]
      have hp : pairB [a.kind, b.kind] = true := by
        simp only [pairB, Bool.or_eq_true, decide_eq_true_eq]
        by_cases e1 : a.kind = b.kind
        · exact .inl e1
        · by_cases e2 : a.kind = 0
          · exact .inr (.inl e2)
          · by_cases e3 : b.kind = 0
            · exact .inr (.inr e3)
            · exact absurd ⟨e1, e2, e3⟩ h2
      rw [hp]
      simp [toldF]
theorem isTrue_truth (b : Bool) : isTrue (truthV b) = b := by cases b <;> rfl
/-- What ExprOrder needs of its five values. -/
structure OrdFacts (a b : Val) (L M Q O K : Val × Int) (ok : Bool) : Prop where
  eL : decide (L.2 = 0) = ok
  eM : decide (M.2 = 0) = ok
  eQ : decide (Q.2 = 0) = ok
  eO : decide (O.2 = 0) = ok
  eK : decide (K.2 = 0) = ok
  bad : ok = false ∨ a.kind = 0 ∨ b.kind = 0 → L.1 = .zero ∧ Q.1 = .zero ∧ O.1 = .zero
  good : ok = true → a.kind ≠ 0 → b.kind ≠ 0 → L.1 = M.1 ∧ ((isTrue L.1 = true ∧ isTrue Q.1 = false ∧ isTrue O.1 = true ∧ isTrue K.1 = true ∧ decide (a = b) = false) ∨
    (isTrue L.1 = false ∧ isTrue Q.1 = true ∧ isTrue O.1 = false ∧ isTrue K.1 = true ∧ decide (a = b) = true) ∨ (isTrue L.1 = false ∧ isTrue Q.1 = false ∧ isTrue O.1 = true ∧ isTrue K.1 = false ∧ decide (a = b) = false))
theorem ord_facts (a b : Val) : ∃ ok, OrdFacts a b (evalTF cols3 zeros (cmpE [60] a b)) (evalTF cols3 zeros (cmpE [62] b a)) (evalTF cols3 zeros (cmpE [61] a b)) (evalTF cols3 zeros (cmpE [60, 62] a b)) (evalTF cols3 zeros (cmpE [60, 61] a b)) ok := by
  rw [cmpE_val _ rfl, cmpE_val _ rfl, cmpE_val _ rfl, cmpE_val _ rfl, cmpE_val _ rfl]
  show ∃ ok, OrdFacts a b (cmpRes .lt a b) (cmpRes .gt b a) (cmpRes .eq a b) (cmpRes .ne a b) (cmpRes .le a b) ok
  unfold cmpRes
  by_cases h1 : mayV a = false ∨ mayV b = false
  · have h1' : mayV b = false ∨ mayV a = false := h1.symm
    rw [if_pos h1, if_pos h1', if_pos h1, if_pos h1, if_pos h1]
    exact ⟨false, rfl, rfl, rfl, rfl, rfl, fun _ => ⟨rfl, rfl, rfl⟩, fun h => by cases h⟩
  · have h1' : ¬ (mayV b = false ∨ mayV a = false) := fun h => h1 h.symm
    rw [if_neg h1, if_neg h1', if_neg h1, if_neg h1, if_neg h1]
    by_cases h2 : a.kind ≠ b.kind ∧ a.kind ≠ 0 ∧ b.kind ≠ 0
    · have h2' : b.kind ≠ a.kind ∧ b.kind ≠ 0 ∧ a.kind ≠ 0 := ⟨Ne.symm h2.1, h2.2.2, h2.2.1⟩
      rw [if_pos h2, if_pos h2', if_pos h2, if_pos h2, if_pos h2]
      exact ⟨false, rfl, rfl, rfl, rfl, rfl, fun _ => ⟨rfl, rfl, rfl⟩, fun h => by cases h⟩
    · have h2' : ¬ (b.kind ≠ a.kind ∧ b.kind ≠ 0 ∧ a.kind ≠ 0) := fun h => h2 ⟨Ne.symm h.1, h.2.2, h.2.1⟩
      rw [if_neg h2, if_neg h2', if_neg h2, if_neg h2, if_neg h2]
      by_cases h3 : a.kind = 0 ∨ b.kind = 0
      · have h3' : b.kind = 0 ∨ a.kind = 0 := h3.symm
        rw [if_pos h3, if_pos h3', if_pos h3, if_pos h3, if_pos h3]
        exact ⟨true, rfl, rfl, rfl, rfl, rfl, fun _ => ⟨rfl, rfl, rfl⟩, fun _ g1 g2 => by rcases h3 with h | h; exact absurd h g1; exact absurd h g2⟩
      · have h3' : ¬ (b.kind = 0 ∨ a.kind = 0) := fun h => h3 h.symm
        rw [if_neg h3, if_neg h3', if_neg h3, if_neg h3, if_neg h3]
        refine ⟨true, rfl, rfl, rfl, rfl, rfl, fun h => ?_, fun _ _ _ => ⟨?_, ?_⟩⟩
        · rcases h with h | h
          · cases h
          · exact absurd h h3
        · show truthV (decide (cmpV a b < 0)) = truthV (decide (0 < cmpV b a))
          rw [cmpV_swap a b]
          congr 1
          exact decide_eq_decide.2 (by omega)
        · simp only [isTrue_truth, holdsF]
          have hz := cmpV_zero a b
          rcases Int.lt_trichotomy (cmpV a b) 0 with h | h | h
          · left
            have hne : ¬ a = b := fun e => by have := hz.2 e; omega
            refine ⟨by simpa using h, by simp; omega, by simp; omega, by simp; omega, by simpa using hne⟩
          · right; left
            refine ⟨by simp; omega, by simpa using h, by simpa using h, by simp; omega, by simpa using hz.1 h⟩
          · right; right
            have hne : ¬ a = b := fun e => by have := hz.2 e; omega
            refine ⟨by simp; omega, by simp; omega, by simp; omega, by simp; omega, by simpa using hne⟩
end Go.Proofs.Ytakbikibahhepaa
