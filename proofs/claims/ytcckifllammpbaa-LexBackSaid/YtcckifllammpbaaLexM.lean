/-
  The plain model of the tokens of a text: no program in sight.
-/
import Derived.Test.YtcckifllammpbaaLib
set_option linter.unusedSimpArgs false
set_option linter.unusedVariables false
namespace Go.Proofs.Ytcckifllammpbaa

/-- What holds of 256 numbers holds of every byte. -/
theorem u8_all {p : UInt8 → Bool} (h : (List.range 256).all (fun i => p (UInt8.ofNat i)) = true) (c : UInt8) : p c = true := by
  have := List.all_eq_true.1 h c.toNat (by simpa using c.toNat_lt)
  simpa using this
def isDig (c : UInt8) : Bool := decide (48 ≤ c) && decide (c ≤ 57)
def isLet (c : UInt8) : Bool := (decide (65 ≤ c) && decide (c ≤ 90)) || (decide (97 ≤ c) && decide (c ≤ 122)) || decide (c = 95)
def isWordy (c : UInt8) : Bool := isLet c || isDig c
def isBlank (c : UInt8) : Bool := decide (c = 9) || decide (c = 10) || decide (c = 13) || decide (c = 32)
def upB (c : UInt8) : UInt8 := if 97 ≤ c ∧ c ≤ 122 then c - 32 else c
def runF (p : UInt8 → Bool) (s : List UInt8) : Nat := (s.takeWhile p).length
def maxI : Nat := 9223372036854775807
/-- digits, from a number on. -/
def numGo : Nat → List UInt8 → Option Nat
  | v, [] => some v
  | v, c :: l => if maxI < 10 * v + (c.toNat - 48) then none else numGo (10 * v + (c.toNat - 48)) l
/-- A token (without its place). -/
structure Tok where
  kind : Nat
  s : List UInt8
  n : Nat
deriving DecidableEq
structure TRes where
  t : Tok
  n : Nat
  e : Nat
deriving DecidableEq
def tErr (e : Nat) : TRes := ⟨⟨0, [], 0⟩, 0, e⟩
def numF (s : List UInt8) : TRes :=
  match numGo 0 (s.takeWhile isDig) with
  | none => tErr 5
  | some v => match (s.dropWhile isDig).head? with
    | some c => if isLet c then tErr 13 else ⟨⟨2, [], v⟩, runF isDig s, 0⟩
    | none => ⟨⟨2, [], v⟩, runF isDig s, 0⟩
/-- What stands between quotes: behind the first i bytes. -/
def textGo : List UInt8 → Nat → List UInt8 → TRes
  | _, _, [] => tErr 13
  | acc, i, c :: l =>
    if c = 39 then
      match l with
      | 39 :: l' => textGo (acc ++ [39]) (i + 2) l'
      | _ => if 64 < acc.length then tErr 3 else ⟨⟨3, acc, 0⟩, i + 1, 0⟩
    else textGo (acc ++ [c]) (i + 1) l
def isSign (c : UInt8) : Bool := [40, 41, 44, 59, 42, 61, 60, 62, 43, 45, 47, 37].contains c
def isTwo (a b : UInt8) : Bool := (a == 60 && b == 62) || (a == 60 && b == 61) || (a == 62 && b == 61)
def signF : List UInt8 → TRes
  | [] => tErr 13
  | [a] => if isSign a then ⟨⟨4, [a], 0⟩, 1, 0⟩ else tErr 13
  | a :: b :: _ => if isTwo a b then ⟨⟨4, [a, b], 0⟩, 2, 0⟩ else if isSign a then ⟨⟨4, [a], 0⟩, 1, 0⟩ else tErr 13
def tokF : List UInt8 → TRes
  | [] => tErr 13
  | c :: l =>
    if isBlank c then ⟨⟨0, [], 0⟩, 1, 0⟩
    else if isLet c then ⟨⟨1, ((c :: l).takeWhile isWordy).map upB, 0⟩, runF isWordy (c :: l), 0⟩
    else if isDig c then numF (c :: l)
    else if c = 39 then textGo [] 1 l
    else signF (c :: l)

theorem textGo_pos : ∀ (k : Nat) (acc : List UInt8) (i : Nat) (l : List UInt8), l.length ≤ k → (textGo acc i l).e = 0 → i ≤ (textGo acc i l).n ∧ (textGo acc i l).n ≤ i + l.length := by
  intro k
  induction k with
  | zero =>
    intro acc i l hl h
    have : l = [] := List.eq_nil_of_length_eq_zero (by omega)
    subst this
    simp [textGo, tErr] at h
  | succ k ih =>
    intro acc i l hl h
    cases l with
    | nil => simp [textGo, tErr] at h
    | cons c l =>
      unfold textGo at h ⊢
      by_cases hc : c = 39
      · rw [if_pos hc] at h ⊢
        split at h
        · rename_i l'
          obtain ⟨h1, h2⟩ := ih _ _ _ (by simp at hl ⊢; omega) h
          simp only [List.length_cons]
          constructor <;> omega
        · split at h
          · simp [tErr] at h
          · rename_i hl2
            simp only [if_neg hl2, List.length_cons]
            constructor <;> omega
      · rw [if_neg hc] at h ⊢
        obtain ⟨h1, h2⟩ := ih _ _ _ (by simp at hl; omega) h
        simp only [List.length_cons]
        constructor <;> omega
theorem runF_le (p : UInt8 → Bool) (s : List UInt8) : runF p s ≤ s.length := by
  unfold runF
  exact (List.takeWhile_prefix p).length_le
theorem runF_pos {p : UInt8 → Bool} {c : UInt8} {l : List UInt8} (h : p c = true) : 1 ≤ runF p (c :: l) := by
  simp [runF, List.takeWhile_cons, h]
theorem numF_pos {c : UInt8} {l : List UInt8} (hc : isDig c = true) (h : (numF (c :: l)).e = 0) : 1 ≤ (numF (c :: l)).n ∧ (numF (c :: l)).n ≤ (c :: l).length := by
  unfold numF at h ⊢
  have h1 := runF_pos (p := isDig) (l := l) hc
  have h2 := runF_le isDig (c :: l)
  split at h
  · simp [tErr] at h
  · split at h
    · split at h
      · simp [tErr] at h
      · rename_i hh; simp only [if_neg hh]; exact ⟨h1, h2⟩
    · exact ⟨h1, h2⟩
theorem signF_pos {s : List UInt8} (h : (signF s).e = 0) : 1 ≤ (signF s).n ∧ (signF s).n ≤ s.length := by
  match s with
  | [] => simp [signF, tErr] at h
  | [a] =>
    simp only [signF] at h ⊢
    split at h
    · rename_i h1; simp [h1]
    · simp [tErr] at h
  | a :: b :: l =>
    simp only [signF] at h ⊢
    split at h
    · rename_i h1; simp [h1]
    · rename_i h1
      split at h
      · rename_i h2; simp [h1, h2]
      · simp [tErr] at h
theorem tokF_pos {s : List UInt8} (h : (tokF s).e = 0) : 1 ≤ (tokF s).n ∧ (tokF s).n ≤ s.length := by
  cases s with
  | nil => simp [tokF, tErr] at h
  | cons c l =>
    simp only [tokF] at h ⊢
    by_cases h1 : isBlank c = true
    · simp [h1]
    · simp only [h1, if_false, Bool.false_eq_true] at h ⊢
      by_cases h2 : isLet c = true
      · simp only [h2, if_true] at h ⊢
        exact ⟨runF_pos (by simp [isWordy, h2]), runF_le _ _⟩
      · simp only [h2, if_false, Bool.false_eq_true] at h ⊢
        by_cases h3 : isDig c = true
        · simp only [h3, if_true] at h ⊢
          exact numF_pos h3 h
        · simp only [h3, if_false, Bool.false_eq_true] at h ⊢
          by_cases h4 : c = 39
          · simp only [h4, if_true] at h ⊢
            have := textGo_pos l.length [] 1 l (Nat.le_refl _) h
            simp only [List.length_cons]
            omega
          · simp only [h4, if_false] at h ⊢
            exact signF_pos h

/-- The tokens from a place on: an error, or the tokens with their places. -/
def lexFrom (i : Nat) (s : List UInt8) : Nat × List (Nat × Tok) :=
  if hs : s = [] then (0, [])
  else if he : (tokF s).e = 0 then
    let y := lexFrom (i + (tokF s).n) (s.drop (tokF s).n)
    if y.1 = 0 then (0, (if (tokF s).t.kind = 0 then [] else [(i, (tokF s).t)]) ++ y.2) else (y.1, [])
  else ((tokF s).e, [])
termination_by s.length
decreasing_by
  have := tokF_pos he
  simp only [List.length_drop]
  have : 0 < s.length := by cases s with | nil => exact absurd rfl hs | cons _ _ => simp
  omega
theorem lexFrom_nil (i : Nat) : lexFrom i [] = (0, []) := by unfold lexFrom; simp
theorem lexFrom_err {i : Nat} {s : List UInt8} (hs : s ≠ []) (h : (tokF s).e ≠ 0) : lexFrom i s = ((tokF s).e, []) := by
  unfold lexFrom; simp [hs, h]
theorem lexFrom_go {i : Nat} {s : List UInt8} (hs : s ≠ []) (h : (tokF s).e = 0) :
    lexFrom i s = if (lexFrom (i + (tokF s).n) (s.drop (tokF s).n)).1 = 0 then (0, (if (tokF s).t.kind = 0 then [] else [(i, (tokF s).t)]) ++ (lexFrom (i + (tokF s).n) (s.drop (tokF s).n)).2) else ((lexFrom (i + (tokF s).n) (s.drop (tokF s).n)).1, []) := by
  conv => lhs; unfold lexFrom
  simp [hs, h]
/-- All tokens: an error, or the tokens, the end behind them. -/
def lexF (s : List UInt8) : Nat × List (Nat × Tok) :=
  if 2000 < s.length then (3, [])
  else if (lexFrom 0 s).1 = 0 then (0, (lexFrom 0 s).2 ++ [(s.length, ⟨0, [], 0⟩)]) else ((lexFrom 0 s).1, [])
end Go.Proofs.Ytcckifllammpbaa
