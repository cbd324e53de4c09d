/-
  Plain laws of the order of texts; no program in sight.
-/
import Derived.Test.YtpbekhcogpkbpaaDoorLib3
import Derived.Test.YtpbekhcogpkbpaaDoorShelf
set_option linter.unusedSimpArgs false
set_option linter.unusedVariables false
namespace Go.Proofs.YtpbekhcogpkbpaaDoor

def ltB (a b : List UInt8) : Bool := Op.bytesLess a b
theorem ltB_str (a b : List UInt8) : Op.bytesLess (str a).toList (str b).toList = ltB a b := by
  rw [ByteArray.toList_eq, ByteArray.toList_eq]; rfl
theorem ltB_irrefl : ∀ a : List UInt8, ltB a a = false
  | [] => rfl
  | c :: a => by
    have := ltB_irrefl a
    unfold ltB at this ⊢
    simp [Op.bytesLess, this]
theorem ltB_tri : ∀ a b : List UInt8, ltB a b = true ∨ a = b ∨ ltB b a = true
  | [], [] => .inr (.inl rfl)
  | [], _ :: _ => .inl rfl
  | _ :: _, [] => .inr (.inr rfl)
  | c :: a, d :: b => by
    have := ltB_tri a b
    unfold ltB at this ⊢
    simp only [Op.bytesLess, Bool.or_eq_true, decide_eq_true_eq, Bool.and_eq_true, beq_iff_eq, List.cons.injEq]
    rcases Nat.lt_trichotomy c.toNat d.toNat with h | h | h
    · exact .inl (.inl (UInt8.lt_iff_toNat_lt.2 h))
    · have e : c = d := UInt8.toNat_inj.1 h
      rcases this with h1 | h1 | h1
      · exact .inl (.inr ⟨e, h1⟩)
      · exact .inr (.inl ⟨e, h1⟩)
      · exact .inr (.inr (.inr ⟨e.symm, h1⟩))
    · exact .inr (.inr (.inl (UInt8.lt_iff_toNat_lt.2 h)))
theorem ltB_trans : ∀ {a b c : List UInt8}, ltB a b = true → ltB b c = true → ltB a c = true
  | _, [], _, h, _ => by unfold ltB at h; simp [Op.bytesLess] at h
  | _, _ :: _, [], _, h => by unfold ltB at h; simp [Op.bytesLess] at h
  | [], _ :: _, _ :: _, _, _ => rfl
  | x :: a, y :: b, z :: c, h1, h2 => by
    have ih := @ltB_trans a b c
    unfold ltB at ih h1 h2 ⊢
    simp only [Op.bytesLess, Bool.or_eq_true, decide_eq_true_eq, Bool.and_eq_true, beq_iff_eq] at h1 h2 ⊢
    rcases h1 with h1 | ⟨rfl, h1⟩
    · rcases h2 with h2 | ⟨rfl, h2⟩
      · left
        rw [UInt8.lt_iff_toNat_lt] at h1 h2 ⊢
        omega
      · exact .inl h1
    · rcases h2 with h2 | ⟨rfl, h2⟩
      · exact .inl h2
      · exact .inr ⟨rfl, ih h1 h2⟩
theorem ltB_asymm {a b : List UInt8} (h : ltB a b = true) : ltB b a = false := by
  cases h2 : ltB b a
  · rfl
  · have := ltB_trans h h2
    rw [ltB_irrefl] at this; cases this
theorem ltB_ne {a b : List UInt8} (h : ltB a b = true) : a ≠ b := by
  rintro rfl
  rw [ltB_irrefl] at h; cases h
theorem cmpB_eq : ∀ a b : List UInt8, Lib.compareBytes a b = if ltB a b then -1 else if a = b then 0 else 1
  | [], [] => rfl
  | [], _ :: _ => rfl
  | _ :: _, [] => rfl
  | c :: a, d :: b => by
    have ih := cmpB_eq a b
    unfold ltB at ih ⊢
    simp only [Lib.compareBytes, Op.bytesLess, Bool.or_eq_true, decide_eq_true_eq, Bool.and_eq_true, beq_iff_eq, List.cons.injEq]
    by_cases h : c < d
    · simp [h]
    · by_cases h2 : d < c
      · have hne : ¬ c = d := by rintro rfl; exact h h2
        simp [h, h2, hne]
      · have e : c = d := by
          apply UInt8.toNat_inj.1
          rw [UInt8.lt_iff_toNat_lt] at h h2
          omega
        subst e
        simp [h, ih]
theorem cmpB_neg (a b : List UInt8) : decide (Lib.compareBytes a b < 0) = ltB a b := by
  rw [cmpB_eq]
  cases ltB a b
  · simp; split <;> omega
  · rfl
theorem cmpB_zero (a b : List UInt8) : (Lib.compareBytes a b == 0) = decide (a = b) := by
  rw [cmpB_eq]
  cases h : ltB a b
  · simp only [Bool.false_eq_true, if_false]
    by_cases e : a = b
    · simp [e]
    · simp [e]
  · have := ltB_ne h
    simp [this]
end Go.Proofs.YtpbekhcogpkbpaaDoor
