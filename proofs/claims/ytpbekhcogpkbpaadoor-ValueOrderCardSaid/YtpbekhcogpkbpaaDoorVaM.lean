/-
  Values as plain data: how they are laid and read, both ways.
-/
import Derived.Test.YtpbekhcogpkbpaaDoorBitV
set_option linter.unusedSimpArgs false
set_option linter.unusedVariables false
namespace Go.Proofs.YtpbekhcogpkbpaaDoor

structure Val where
  kind : Int
  n : Int
  s : List UInt8
deriving DecidableEq
def mayV (v : Val) : Bool :=
  if v.kind = 0 then decide (v.n = 0) && decide (v.s = []) else if v.kind = 1 then (decide (v.n = 0) || decide (v.n = 1)) && decide (v.s = []) else if v.kind = 2 then decide (v.s = [])
  else if v.kind = 3 then decide (v.n = 0) && decide (v.s.length ≤ 64) else false
def valCs (v : Val) : List Value := [.int .i64 v.kind, .int .i64 v.n, .string (str v.s)]
abbrev valV (v : Val) : Value := .agg #[.int .i64 v.kind, .int .i64 v.n, .string (str v.s)]
def Val.May (v : Val) : Prop := (v.kind = 0 ∧ v.n = 0 ∧ v.s = []) ∨ (v.kind = 1 ∧ (v.n = 0 ∨ v.n = 1) ∧ v.s = []) ∨ (v.kind = 2 ∧ v.s = []) ∨ (v.kind = 3 ∧ v.n = 0 ∧ v.s.length ≤ 64)
instance (v : Val) : Decidable v.May := by unfold Val.May; infer_instance
theorem mayV_iff (v : Val) : mayV v = true ↔ v.May := by
  unfold mayV Val.May
  by_cases h0 : v.kind = 0
  · simp [h0]
  · by_cases h1 : v.kind = 1
    · simp [h1]
    · by_cases h2 : v.kind = 2
      · simp [h2]
      · by_cases h3 : v.kind = 3
        · simp [h3]
        · simp [h0, h1, h2, h3]
def va0 : Val := ⟨0, 0, []⟩
def I64 (n : Int) : Prop := -9223372036854775808 ≤ n ∧ n ≤ 9223372036854775807
def ordN (n : Int) : Nat := (n + 9223372036854775808).toNat
def backN (u : Nat) : Int := (u : Int) - 9223372036854775808
def zigN (n : Int) : Nat := if 0 ≤ n then (2 * n).toNat else (-2 * n - 1).toNat
def zagN (u : Nat) : Int := if u % 2 = 0 then (u / 2 : Nat) else -((u / 2 : Nat) : Int) - 1
def escL : List UInt8 → List UInt8
  | [] => []
  | c :: r => if c = 0 then 0 :: 255 :: escL r else c :: escL r
def varL (v : Nat) : List UInt8 := if h : v < 128 then [UInt8.ofNat v] else UInt8.ofNat (v % 128 + 128) :: varL (v / 128)
termination_by v
decreasing_by omega
def textL (s : List UInt8) : List UInt8 := varL s.length ++ s
def keyB (v : Val) : List UInt8 := if v.kind = 1 then [UInt8.ofNat v.n.toNat] else if v.kind = 2 then putN 8 (ordN v.n) else if v.kind = 3 then escL v.s ++ [0, 1] else []
def keyL (v : Val) : List UInt8 := if v.May then UInt8.ofNat v.kind.toNat :: keyB v else []
def plnB (v : Val) : List UInt8 := if v.kind = 1 then [UInt8.ofNat v.n.toNat] else if v.kind = 2 then varL (zigN v.n) else if v.kind = 3 then textL v.s else []
def plainL (v : Val) : List UInt8 := if v.May then UInt8.ofNat v.kind.toNat :: plnB v else []
/-- What is read: a value, how many bytes, an error. -/
def takeBoolF : List UInt8 → Val × Nat × Int
  | [] => (va0, 0, 2)
  | c :: _ => if 1 < c.toNat then (va0, 0, 9) else (⟨1, c.toNat, []⟩, 2, 0)
def takeTextF : List UInt8 → Nat → List UInt8 → Val × Nat × Int
  | [], _, _ => (va0, 0, 2)
  | [c], i, acc => if c = 0 then (va0, 0, 2) else if acc.length = 64 then (va0, 0, 3) else (va0, 0, 2)
  | c :: d :: r, i, acc =>
    if c = 0 then (if d = 1 then (⟨3, 0, acc⟩, i + 2, 0) else if d ≠ 255 then (va0, 0, 9) else if acc.length = 64 then (va0, 0, 3) else takeTextF r (i + 2) (acc ++ [0]))
    else if acc.length = 64 then (va0, 0, 3) else takeTextF (d :: r) (i + 1) (acc ++ [c])
def takeKeyF : List UInt8 → Val × Nat × Int
  | [] => (va0, 0, 2)
  | c :: r => if c = 0 then (va0, 1, 0) else if c = 1 then takeBoolF r else if c = 2 then (if r.length < 8 then (va0, 0, 2) else (⟨2, backN (getN (r.take 8)), []⟩, 9, 0)) else if c = 3 then takeTextF r 1 [] else (va0, 0, 9)
def takeVarF : List UInt8 → Nat → Nat → Nat × Nat × Int
  | [], _, _ => (0, 0, 2)
  | c :: r, i, acc => if i = 9 ∧ 1 < c.toNat then (0, 0, 5) else if 128 ≤ c.toNat then takeVarF r (i + 1) (acc + (c.toNat - 128) * 128 ^ i) else if c = 0 ∧ 0 < i then (0, 0, 9) else (acc + c.toNat * 128 ^ i, i + 1, 0)
def takeTxF (b : List UInt8) : List UInt8 × Nat × Int :=
  match takeVarF b 0 0 with
  | (u, k, e) => if e ≠ 0 then ([], 0, e) else if 1048576 < u then ([], 0, 3) else if b.length - k < u then ([], 0, 2) else ((b.drop k).take u, k + u, 0)
def takeF : List UInt8 → Val × Nat × Int
  | [] => (va0, 0, 2)
  | c :: r => if c = 0 then (va0, 1, 0) else if c = 1 then takeBoolF r else if c = 2 then (match takeVarF r 0 0 with | (u, k, e) => if e ≠ 0 then (va0, 0, e) else (⟨2, zagN u, []⟩, 1 + k, 0))
    else if c = 3 then (match takeTxF r with | (s, k, e) => if e ≠ 0 then (va0, 0, e) else if 64 < s.length then (va0, 0, 3) else (⟨3, 0, s⟩, 1 + k, 0)) else (va0, 0, 9)
/-! ### what was laid is read -/
theorem escL_read : ∀ (s : List UInt8) (rest : List UInt8) (i : Nat) (acc : List UInt8), acc.length + s.length ≤ 64 → takeTextF (escL s ++ ([0, 1] ++ rest)) i acc = (⟨3, 0, acc ++ s⟩, i + ((escL s).length + 2), 0)
  | [], rest, i, acc, h => by simp [escL, takeTextF]
  | c :: s, rest, i, acc, h => by
    simp only [List.length_cons] at h
    have h64 : ¬ acc.length = 64 := by omega
    by_cases hc : c = 0
    · subst hc
      have e : escL (0 :: s) = 0 :: 255 :: escL s := by simp [escL]
      rw [e]
      show takeTextF (0 :: 255 :: (escL s ++ ([0, 1] ++ rest))) i acc = _
      rw [takeTextF, if_pos rfl, if_neg (by decide), if_neg (by decide), if_neg h64, escL_read s rest (i + 2) (acc ++ [0]) (by simp; omega)]
      simp; omega
    · have e : escL (c :: s) = c :: escL s := by simp [escL, hc]
      rw [e]
      obtain ⟨d, t, ht⟩ : ∃ d t, escL s ++ ([0, 1] ++ rest) = d :: t := by
        cases hh : escL s ++ ([0, 1] ++ rest) with
        | nil => simp at hh
        | cons d t => exact ⟨d, t, rfl⟩
      show takeTextF (c :: (escL s ++ ([0, 1] ++ rest))) i acc = _
      rw [ht, takeTextF, if_neg hc, if_neg h64, ← ht, escL_read s rest (i + 1) (acc ++ [c]) (by simp; omega)]
      simp; omega
theorem ord_lt {n : Int} (h : I64 n) : ordN n < 2 ^ 64 := by
  unfold ordN; have := h.1; have := h.2; omega
theorem back_ord {n : Int} (h : I64 n) : backN (ordN n) = n := by
  unfold backN ordN; have := h.1; omega
theorem get_putN (n x : Nat) (hx : x < 256 ^ n) : getN (putN n x) = x := by
  have key : ∀ j, j ≤ n → getN ((putN n x).take j) = x / 256 ^ (n - j) := by
    intro j
    induction j with
    | zero => intro _; rw [List.take_zero]; show 0 = _; rw [Nat.sub_zero, Nat.div_eq_of_lt hx]
    | succ j ih =>
      intro hj
      rw [putN_take n x j (by omega), getN_snoc, ih (by omega)]
      have e : n - j = (n - 1 - j) + 1 := by omega
      have e2 : n - (j + 1) = n - 1 - j := by omega
      have hb : (UInt8.ofNat (x / 256 ^ (n - 1 - j))).toNat = x / 256 ^ (n - 1 - j) % 256 := by simp
      rw [hb, e2, e, Nat.pow_succ, ← Nat.div_div_eq_div_mul]
      omega
  have := key n (Nat.le_refl _)
  rw [Nat.sub_self, Nat.pow_zero, Nat.div_one, List.take_of_length_le (by rw [putN_len]; exact Nat.le_refl _)] at this
  exact this
theorem zag_zig (n : Int) : zagN (zigN n) = n := by
  unfold zagN zigN
  by_cases h : 0 ≤ n
  · rw [if_pos h, if_pos (by omega)]; omega
  · rw [if_neg h, if_neg (by omega)]; omega
theorem zig_lt {n : Int} (h : I64 n) : zigN n < 2 ^ 64 := by
  unfold zigN; have := h.1; have := h.2; split <;> omega
theorem var_read : ∀ (v i : Nat) (rest : List UInt8) (acc : Nat), v * 128 ^ i < 2 ^ 64 → (i = 0 ∨ 0 < v) → takeVarF (varL v ++ rest) i acc = (acc + v * 128 ^ i, i + (varL v).length, 0) := by
  intro v
  induction v using Nat.strongRecOn with
  | _ v ih =>
    intro i rest acc hv hi
    have hi9 : i ≤ 9 := by
      rcases Nat.lt_or_ge 9 i with h | h
      · exfalso
        rcases hi with h1 | h1
        · omega
        · have h2 : 128 ^ 10 ≤ 128 ^ i := Nat.pow_le_pow_right (by decide) h
          have h3 : 1 * 128 ^ i ≤ v * 128 ^ i := Nat.mul_le_mul_right _ h1
          have : (2:Nat) ^ 64 < 128 ^ 10 := by decide
          omega
      · exact h
    have h9 : i = 9 → v ≤ 1 := by
      rintro rfl
      rcases Nat.lt_or_ge 1 v with h | h
      · have h3 : 2 * 128 ^ 9 ≤ v * 128 ^ 9 := Nat.mul_le_mul_right _ h
        have : (2:Nat) ^ 64 = 2 * 128 ^ 9 := by decide
        omega
      · exact h
    unfold varL
    by_cases h : v < 128
    · rw [dif_pos h]
      have hn : (UInt8.ofNat v).toNat = v := by simp; omega
      show takeVarF (UInt8.ofNat v :: rest) i acc = _
      rw [takeVarF, hn, if_neg (by intro hh; have := h9 hh.1; omega), if_neg (by omega), if_neg]
      · rfl
      · rintro ⟨h1, h2⟩
        have : v = 0 := by rw [← hn, h1]; rfl
        omega
    · rw [dif_neg h]
      have hn : (UInt8.ofNat (v % 128 + 128)).toNat = v % 128 + 128 := by simp; omega
      show takeVarF (UInt8.ofNat (v % 128 + 128) :: (varL (v / 128) ++ rest)) i acc = _
      have e : v / 128 * 128 ^ (i + 1) = (v / 128 * 128) * 128 ^ i := by rw [Nat.pow_succ, Nat.mul_comm (128 ^ i) 128, ← Nat.mul_assoc]
      have hle : v / 128 * 128 ≤ v := Nat.div_mul_le_self v 128
      have hle2 : (v / 128 * 128) * 128 ^ i ≤ v * 128 ^ i := Nat.mul_le_mul_right _ hle
      rw [takeVarF, hn, if_neg (by intro hh; have := h9 hh.1; omega), if_pos (by omega), ih (v / 128) (by omega) (i + 1) rest _ (by rw [e]; omega) (Or.inr (by omega)), e]
      have hs : acc + (v % 128 + 128 - 128) * 128 ^ i + v / 128 * 128 * 128 ^ i = acc + v * 128 ^ i := by
        rw [Nat.add_sub_cancel, Nat.add_assoc, ← Nat.add_mul]
        have : v % 128 + v / 128 * 128 = v := by omega
        rw [this]
      rw [hs, List.length_cons]
      congr 2
      omega
theorem keyL_read {v : Val} (h : v.May) (hn : I64 v.n) (rest : List UInt8) : takeKeyF (keyL v ++ rest) = (v, (keyL v).length, 0) := by
  unfold keyL
  rw [if_pos h]
  obtain ⟨k, n, s⟩ := v
  rcases h with ⟨hk, h1, h2⟩ | ⟨hk, h1, h2⟩ | ⟨hk, h2⟩ | ⟨hk, h1, h2⟩
  · simp only at hk h1 h2; subst hk h1 h2; rfl
  · simp only at hk h1 h2; subst hk h2
    rcases h1 with rfl | rfl <;> simp [keyB, takeKeyF, takeBoolF] <;> rfl
  · simp only at hk h2; subst hk h2
    have hp : (putN 8 (ordN n)).length = 8 := putN_len _ _
    show takeKeyF (2 :: (putN 8 (ordN n) ++ rest)) = (_, (putN 8 (ordN n)).length + 1, 0)
    rw [takeKeyF, if_neg (by decide), if_neg (by decide), if_pos rfl, if_neg (by simp [hp]), List.take_append_of_le_length (by omega), List.take_of_length_le (by omega), get_putN 8 _ (ord_lt hn), back_ord hn, hp]
  · simp only at hk h1 h2; subst hk h1
    show takeKeyF (3 :: (escL s ++ [0, 1] ++ rest)) = (_, (escL s ++ [0, 1]).length + 1, 0)
    rw [takeKeyF, if_neg (by decide), if_neg (by decide), if_neg (by decide), if_pos rfl, List.append_assoc, escL_read s rest 1 [] (by simpa using h2)]
    simp; omega
theorem plainL_read {v : Val} (h : v.May) (hn : I64 v.n) (rest : List UInt8) : takeF (plainL v ++ rest) = (v, (plainL v).length, 0) := by
  unfold plainL
  rw [if_pos h]
  obtain ⟨k, n, s⟩ := v
  rcases h with ⟨hk, h1, h2⟩ | ⟨hk, h1, h2⟩ | ⟨hk, h2⟩ | ⟨hk, h1, h2⟩
  · simp only at hk h1 h2; subst hk h1 h2; rfl
  · simp only at hk h1 h2; subst hk h2
    rcases h1 with rfl | rfl <;> simp [plnB, takeF, takeBoolF]
  · simp only at hk h2; subst hk h2
    show takeF (2 :: (varL (zigN n) ++ rest)) = (_, (varL (zigN n)).length + 1, 0)
    rw [takeF, if_neg (by decide), if_neg (by decide), if_pos rfl, var_read _ 0 rest 0 (by simpa using zig_lt hn) (Or.inl rfl)]
    simp [zag_zig, Nat.add_comm]
  · simp only at hk h1 h2; subst hk h1
    show takeF (3 :: (varL s.length ++ s ++ rest)) = (_, (varL s.length ++ s).length + 1, 0)
    have e : takeTxF (varL s.length ++ (s ++ rest)) = (s, (varL s.length).length + s.length, 0) := by
      unfold takeTxF
      rw [var_read _ 0 (s ++ rest) 0 (by simp; omega) (Or.inl rfl)]
      simp only [Nat.pow_zero, Nat.mul_one, Nat.zero_add]
      rw [if_neg (by decide), if_neg (by omega), if_neg (by simp)]
      simp
    rw [takeF, if_neg (by decide), if_neg (by decide), if_neg (by decide), if_pos rfl, List.append_assoc, e]
    simp only [List.length_append]
    rw [if_neg (by decide), if_neg (by omega)]
    simp; omega
end Go.Proofs.YtpbekhcogpkbpaaDoor
