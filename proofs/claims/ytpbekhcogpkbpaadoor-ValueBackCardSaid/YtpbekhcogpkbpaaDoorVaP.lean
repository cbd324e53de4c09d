/-
  Plain laws of values: their order, and that of their keys; no program in sight.
-/
import Derived.Test.YtpbekhcogpkbpaaDoorVaM
import Derived.Test.YtpbekhcogpkbpaaDoorOrd
set_option linter.unusedSimpArgs false
set_option linter.unusedVariables false
namespace Go.Proofs.YtpbekhcogpkbpaaDoor

def sgn (a b : Int) : Int := if a < b then -1 else if b < a then 1 else 0
theorem sgn_eq {a b : Int} : sgn a b = 0 ↔ a = b := by unfold sgn; split <;> (try split) <;> omega
theorem sgn_swap (a b : Int) : sgn b a = -sgn a b := by unfold sgn; split <;> (try split) <;> omega
def cmpV (a b : Val) : Int := if sgn a.kind b.kind ≠ 0 then sgn a.kind b.kind else if sgn a.n b.n ≠ 0 then sgn a.n b.n else Lib.compareBytes a.s b.s
theorem cmpB_swap (a b : List UInt8) : Lib.compareBytes b a = -Lib.compareBytes a b := by
  rw [cmpB_eq, cmpB_eq]
  rcases ltB_tri a b with h | h | h
  · have h2 := ltB_asymm h
    have h3 : ¬ b = a := fun e => ltB_ne h e.symm
    simp [h, h2, h3]
  · subst h; simp [ltB_irrefl]
  · have h2 := ltB_asymm h
    have h3 : ¬ a = b := fun e => ltB_ne h e.symm
    simp [h, h2, h3]
theorem cmpB_bd (a b : List UInt8) : -1 ≤ Lib.compareBytes a b ∧ Lib.compareBytes a b ≤ 1 := by
  rw [cmpB_eq]; split <;> (try split) <;> omega
theorem cmpV_swap (a b : Val) : cmpV b a = -cmpV a b := by
  unfold cmpV
  rw [sgn_swap a.kind b.kind, sgn_swap a.n b.n, cmpB_swap a.s b.s]
  by_cases h1 : sgn a.kind b.kind = 0 <;> by_cases h2 : sgn a.n b.n = 0 <;> simp [h1, h2]
theorem cmpV_bd (a b : Val) : -1 ≤ cmpV a b ∧ cmpV a b ≤ 1 := by
  unfold cmpV
  split
  · unfold sgn; split <;> (try split) <;> omega
  · split
    · unfold sgn; split <;> (try split) <;> omega
    · exact cmpB_bd _ _
theorem cmpV_zero (a b : Val) : cmpV a b = 0 ↔ a = b := by
  unfold cmpV
  by_cases h1 : sgn a.kind b.kind = 0
  · by_cases h2 : sgn a.n b.n = 0
    · have h3 := cmpB_zero a.s b.s
      have e1 := sgn_eq.1 h1
      have e2 := sgn_eq.1 h2
      simp only [h1, h2, ne_eq, not_true_eq_false, if_false]
      constructor
      · intro h
        have : decide (a.s = b.s) = true := by rw [← h3, h]; rfl
        have e3 : a.s = b.s := by simpa using this
        cases a; cases b; simp_all
      · rintro rfl
        have : (Lib.compareBytes a.s a.s == 0) = true := by rw [h3]; simp
        simpa using this
    · rw [if_neg (fun h => h h1), if_pos h2]
      constructor
      · intro h; exact absurd h h2
      · rintro rfl; exact sgn_eq.2 rfl
  · rw [if_pos h1]
    constructor
    · intro h; exact absurd h h1
    · rintro rfl; exact sgn_eq.2 rfl
theorem cmpV_lt (a b : Val) : cmpV a b < 0 ↔ a.kind < b.kind ∨ a.kind = b.kind ∧ (a.n < b.n ∨ a.n = b.n ∧ ltB a.s b.s = true) := by
  have hb := cmpB_neg a.s b.s
  have hb2 : Lib.compareBytes a.s b.s < 0 ↔ ltB a.s b.s = true := by rw [← hb]; simp
  unfold cmpV
  by_cases h1 : sgn a.kind b.kind = 0
  · have e1 := sgn_eq.1 h1
    rw [if_neg (by simpa using h1)]
    by_cases h2 : sgn a.n b.n = 0
    · have e2 := sgn_eq.1 h2
      rw [if_neg (by simpa using h2), hb2]
      constructor
      · intro h; exact Or.inr ⟨e1, Or.inr ⟨e2, h⟩⟩
      · rintro (h | ⟨-, h | ⟨-, h⟩⟩)
        · omega
        · omega
        · exact h
    · rw [if_pos h2]
      have hn : ¬ a.n = b.n := fun e => h2 (sgn_eq.2 e)
      unfold sgn
      constructor
      · intro h
        refine Or.inr ⟨e1, Or.inl ?_⟩
        split at h
        · assumption
        · split at h <;> omega
      · rintro (h | ⟨-, h | ⟨h, -⟩⟩)
        · omega
        · rw [if_pos h]; decide
        · exact absurd h hn
  · rw [if_pos h1]
    have hn : ¬ a.kind = b.kind := fun e => h1 (sgn_eq.2 e)
    unfold sgn
    constructor
    · intro h
      left
      split at h
      · assumption
      · split at h <;> omega
    · rintro (h | ⟨h, -⟩)
      · rw [if_pos h]; decide
      · exact absurd h hn
theorem cmpV_trans {a b c : Val} (h1 : cmpV a b ≤ 0) (h2 : cmpV b c ≤ 0) : cmpV a c ≤ 0 := by
  rcases Int.lt_or_eq_of_le h1 with h1 | h1
  · rcases Int.lt_or_eq_of_le h2 with h2 | h2
    · have h3 := (cmpV_lt a b).1 h1
      have h4 := (cmpV_lt b c).1 h2
      refine Int.le_of_lt ((cmpV_lt a c).2 ?_)
      rcases h3 with h3 | ⟨e3, h3⟩
      · rcases h4 with h4 | ⟨e4, h4⟩
        · left; omega
        · left; omega
      · rcases h4 with h4 | ⟨e4, h4⟩
        · left; omega
        · right
          refine ⟨by omega, ?_⟩
          rcases h3 with h3 | ⟨f3, h3⟩
          · rcases h4 with h4 | ⟨f4, h4⟩
            · left; omega
            · left; omega
          · rcases h4 with h4 | ⟨f4, h4⟩
            · left; omega
            · exact Or.inr ⟨by omega, ltB_trans h3 h4⟩
    · rw [(cmpV_zero b c).1 h2] at h1; omega
  · rw [(cmpV_zero a b).1 h1]; exact h2
/-! ### keys stand in the order of the values -/
/-- The first byte in which they differ is the lesser one. -/
def ltP (x y : List UInt8) : Prop := ∃ p c d s t, x = p ++ c :: s ∧ y = p ++ d :: t ∧ c.toNat < d.toNat
theorem ltP.cons {x y : List UInt8} (h : ltP x y) (c : UInt8) : ltP (c :: x) (c :: y) := by
  obtain ⟨p, a, b, s, t, rfl, rfl, h⟩ := h
  exact ⟨c :: p, a, b, s, t, rfl, rfl, h⟩
theorem ltP.head {c d : UInt8} (h : c.toNat < d.toNat) (s t : List UInt8) : ltP (c :: s) (d :: t) := ⟨[], c, d, s, t, rfl, rfl, h⟩
theorem ltP.app {x y : List UInt8} (h : ltP x y) (u v : List UInt8) : ltP (x ++ u) (y ++ v) := by
  obtain ⟨p, a, b, s, t, rfl, rfl, h⟩ := h
  exact ⟨p, a, b, s ++ u, t ++ v, by simp, by simp, h⟩
theorem ltP.lt {x y : List UInt8} (h : ltP x y) : ltB x y = true := by
  obtain ⟨p, a, b, s, t, rfl, rfl, h⟩ := h
  induction p with
  | nil => unfold ltB; simp only [List.nil_append, Op.bytesLess, Bool.or_eq_true, decide_eq_true_eq]; exact .inl (UInt8.lt_iff_toNat_lt.2 h)
  | cons c p ih => unfold ltB at ih ⊢; simp only [List.cons_append, Op.bytesLess, Bool.or_eq_true, decide_eq_true_eq, Bool.and_eq_true, beq_iff_eq]; exact .inr ⟨trivial, ih⟩
theorem ltP.prefix_ne {x y : List UInt8} (h : ltP x y) (n : Nat) (hx : min x.length y.length ≤ n) : x.take n ≠ y.take n := by
  obtain ⟨p, a, b, s, t, rfl, rfl, h⟩ := h
  intro e
  have hn : p.length < n := by simp only [List.length_append, List.length_cons] at hx; omega
  have e2 := congrArg (fun l : List UInt8 => l[p.length]?) e
  simp only [List.getElem?_take, if_pos hn, List.getElem?_append_right (Nat.le_refl _), Nat.sub_self, List.getElem?_cons_zero] at e2
  injection e2 with e2
  rw [e2] at h
  omega
theorem putN_succ (n x : Nat) : putN (n + 1) x = UInt8.ofNat (x / 256 ^ n) :: putN n x := by
  unfold putN
  rw [List.range_succ_eq_map, List.map_cons, List.map_map]
  congr 1
  apply List.map_congr_left
  intro i hi
  have := List.mem_range.1 hi
  show UInt8.ofNat (x / 256 ^ (n + 1 - 1 - (i + 1))) = UInt8.ofNat (x / 256 ^ (n - 1 - i))
  rw [show n + 1 - 1 - (i + 1) = n - 1 - i by omega]
theorem putN_mod (n x : Nat) : putN n x = putN n (x % 256 ^ n) := by
  unfold putN
  apply List.map_congr_left
  intro i hi
  have hi := List.mem_range.1 hi
  apply UInt8.toNat_inj.1
  have e : n = (n - 1 - i) + 1 + i := by omega
  have h1 : x % 256 ^ n / 256 ^ (n - 1 - i) % 256 = x / 256 ^ (n - 1 - i) % 256 := by
    generalize hm : n - 1 - i = m
    have e2 : 256 ^ n = 256 ^ m * (256 * 256 ^ i) := by rw [e, hm, Nat.pow_add, Nat.pow_succ, Nat.mul_assoc]
    rw [e2, Nat.mod_mul_right_div_self, Nat.mod_mul_right_mod]
  simpa using h1.symm
theorem putN_ltP : ∀ (n x y : Nat), x < y → y < 256 ^ n → ltP (putN n x) (putN n y)
  | 0, x, y, h, hy => by simp at hy; omega
  | n + 1, x, y, h, hy => by
    rw [putN_succ, putN_succ]
    have hp : 0 < 256 ^ n := Nat.pow_pos (by decide)
    have hyd : y / 256 ^ n < 256 := by rw [Nat.div_lt_iff_lt_mul hp, Nat.mul_comm]; rw [Nat.pow_succ] at hy; exact hy
    have hle : x / 256 ^ n ≤ y / 256 ^ n := Nat.div_le_div_right (Nat.le_of_lt h)
    rcases Nat.lt_or_eq_of_le hle with h1 | h1
    · refine ltP.head ?_ _ _
      have hx1 : (UInt8.ofNat (x / 256 ^ n)).toNat = x / 256 ^ n := by rw [UInt8.toNat_ofNat']; exact Nat.mod_eq_of_lt (by omega)
      have hy1 : (UInt8.ofNat (y / 256 ^ n)).toNat = y / 256 ^ n := by rw [UInt8.toNat_ofNat']; exact Nat.mod_eq_of_lt (by omega)
      rw [hx1, hy1]
      exact h1
    · rw [h1, putN_mod n x, putN_mod n y]
      refine (putN_ltP n _ _ ?_ (Nat.mod_lt _ hp)).cons _
      have a1 := Nat.div_add_mod x (256 ^ n)
      have a2 := Nat.div_add_mod y (256 ^ n)
      rw [h1] at a1
      omega
theorem escL_ltP : ∀ (s t : List UInt8), ltB s t = true → ltP (escL s ++ [0, 1]) (escL t ++ [0, 1])
  | _, [], h => by
    cases ‹List UInt8› <;> simp [ltB, Op.bytesLess] at h
  | [], d :: t, _ => by
    by_cases hd : d = 0
    · subst hd
      have e : escL (0 :: t) = 0 :: 255 :: escL t := by simp [escL]
      rw [e]
      exact (ltP.head (c := 1) (d := 255) (by decide) [] (escL t ++ [0, 1])).cons 0
    · have e : escL (d :: t) = d :: escL t := by simp [escL, hd]
      rw [e]
      refine ltP.head ?_ _ _
      have : d.toNat ≠ 0 := fun e => hd (UInt8.toNat_inj.1 e)
      show 0 < d.toNat
      omega
  | c :: s, d :: t, h => by
    unfold ltB at h
    simp only [Op.bytesLess, Bool.or_eq_true, decide_eq_true_eq, Bool.and_eq_true, beq_iff_eq] at h
    rcases h with h | ⟨rfl, h⟩
    · have h2 := UInt8.lt_iff_toNat_lt.1 h
      have hd : d ≠ 0 := by rintro rfl; simp at h2
      have e : escL (d :: t) = d :: escL t := by simp [escL, hd]
      rw [e]
      by_cases hc : c = 0
      · subst hc
        have e : escL (0 :: s) = 0 :: 255 :: escL s := by simp [escL]
        rw [e]
        exact ltP.head h2 _ _
      · have e : escL (c :: s) = c :: escL s := by simp [escL, hc]
        rw [e]
        exact ltP.head h2 _ _
    · have ih := escL_ltP s t h
      by_cases hc : c = 0
      · subst hc
        have e : ∀ s, escL (0 :: s) = 0 :: 255 :: escL s := fun s => by simp [escL]
        rw [e, e]
        exact (ih.cons 255).cons 0
      · have e : ∀ s, escL (c :: s) = c :: escL s := fun s => by simp [escL, hc]
        rw [e, e]
        exact ih.cons c
theorem keyL_ltP {a b : Val} (ha : a.May) (hb : b.May) (hna : I64 a.n) (hnb : I64 b.n) (h : cmpV a b < 0) : ltP (keyL a) (keyL b) := by
  unfold keyL
  rw [if_pos ha, if_pos hb]
  have hka : 0 ≤ a.kind ∧ a.kind ≤ 3 := by rcases ha with h | h | h | h <;> (have := h.1; omega)
  have hkb : 0 ≤ b.kind ∧ b.kind ≤ 3 := by rcases hb with h | h | h | h <;> (have := h.1; omega)
  rcases (cmpV_lt a b).1 h with h | ⟨e, h⟩
  · refine ltP.head ?_ _ _
    simp
    omega
  · rw [e]
    refine ltP.cons ?_ _
    have ga : a.kind = b.kind := e
    unfold keyB
    rw [ga]
    rcases hb with ⟨hk, h1, h2⟩ | ⟨hk, h1, h2⟩ | ⟨hk, h2⟩ | ⟨hk, h1, h2⟩
    · rcases ha with ⟨k2, g1, g2⟩ | ⟨k2, -⟩ | ⟨k2, -⟩ | ⟨k2, -⟩
      · rcases h with h | ⟨-, h⟩
        · omega
        · rw [g2, h2, ltB_irrefl] at h; cases h
      all_goals omega
    · rcases ha with ⟨k2, -⟩ | ⟨k2, g1, g2⟩ | ⟨k2, -⟩ | ⟨k2, -⟩
      · omega
      · rw [if_pos hk, if_pos hk]
        rcases h with h | ⟨-, h⟩
        · refine ltP.head ?_ _ _
          simp
          omega
        · rw [g2, h2, ltB_irrefl] at h; cases h
      all_goals omega
    · rcases ha with ⟨k2, -⟩ | ⟨k2, -⟩ | ⟨k2, g2⟩ | ⟨k2, -⟩
      · omega
      · omega
      · rw [if_neg (by omega), if_pos hk, if_neg (by omega), if_pos hk]
        rcases h with h | ⟨-, h⟩
        · refine putN_ltP 8 _ _ ?_ (ord_lt hnb)
          unfold ordN
          have := hna.1
          have := hnb.1
          omega
        · rw [g2, h2, ltB_irrefl] at h; cases h
      · omega
    · rcases ha with ⟨k2, -⟩ | ⟨k2, -⟩ | ⟨k2, -⟩ | ⟨k2, g1, g2⟩
      · omega
      · omega
      · omega
      · rw [if_neg (by omega), if_neg (by omega), if_pos hk, if_neg (by omega), if_neg (by omega), if_pos hk]
        rcases h with h | ⟨-, h⟩
        · omega
        · exact escL_ltP _ _ h
end Go.Proofs.YtpbekhcogpkbpaaDoor
