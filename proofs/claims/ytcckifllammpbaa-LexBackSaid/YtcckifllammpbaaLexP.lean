/-
  Plain laws of the tokens of a text: joined texts, and tokens written anew; no program in sight.
-/
import Derived.Test.YtcckifllammpbaaLexM
set_option linter.unusedSimpArgs false
set_option linter.unusedVariables false
namespace Go.Proofs.Ytcckifllammpbaa

theorem takeWhile_stop {p : UInt8 → Bool} {x : UInt8} (hp : p x = false) (b : List UInt8) : ∀ a : List UInt8, (a ++ x :: b).takeWhile p = a.takeWhile p
  | [] => by simp [List.takeWhile_cons, hp]
  | c :: a => by
    simp only [List.cons_append, List.takeWhile_cons]
    rw [takeWhile_stop hp b a]
theorem dropWhile_stop {p : UInt8 → Bool} {x : UInt8} (hp : p x = false) (b : List UInt8) : ∀ a : List UInt8, (a ++ x :: b).dropWhile p = a.dropWhile p ++ x :: b
  | [] => by simp [List.dropWhile_cons, hp]
  | c :: a => by
    simp only [List.cons_append, List.dropWhile_cons]
    split
    · exact dropWhile_stop hp b a
    · rfl
/-- A byte that ends each token ahead of it. -/
structure Stop (x : UInt8) : Prop where
  w : isWordy x = false
  l : isLet x = false
  d : isDig x = false
  q : x ≠ 39
  t : ∀ c, isTwo c x = false
  b : isBlank x = true
theorem stop10 : Stop 10 := ⟨by decide, by decide, by decide, by decide, by intro c; simp [isTwo], by decide⟩
theorem stop32 : Stop 32 := ⟨by decide, by decide, by decide, by decide, by intro c; simp [isTwo], by decide⟩
theorem numF_app {x : UInt8} (hx : Stop x) (a b : List UInt8) : numF (a ++ x :: b) = numF a := by
  unfold numF runF
  rw [takeWhile_stop hx.d, dropWhile_stop hx.d]
  cases numGo 0 (a.takeWhile isDig) with
  | none => rfl
  | some v =>
    cases a.dropWhile isDig with
    | nil => simp [hx.l]
    | cons c l => rfl
theorem textGo_q (acc : List UInt8) (i : Nat) (l : List UInt8) (h : l.head? ≠ some 39) : textGo acc i (39 :: l) = if 64 < acc.length then tErr 3 else ⟨⟨3, acc, 0⟩, i + 1, 0⟩ := by
  unfold textGo
  rw [if_pos rfl]
  split
  · simp at h
  · rfl
theorem textGo_qq (acc : List UInt8) (i : Nat) (l : List UInt8) : textGo acc i (39 :: 39 :: l) = textGo (acc ++ [39]) (i + 2) l := by
  conv => lhs; unfold textGo
  rw [if_pos rfl]
  rfl
theorem textGo_c (acc : List UInt8) (i : Nat) (c : UInt8) (l : List UInt8) (h : c ≠ 39) : textGo acc i (c :: l) = textGo (acc ++ [c]) (i + 1) l := by
  conv => lhs; unfold textGo
  rw [if_neg h]
theorem textGo_app {x : UInt8} (hx : Stop x) (b : List UInt8) : ∀ (k : Nat) (acc : List UInt8) (i : Nat) (l : List UInt8), l.length ≤ k → (textGo acc i l).e = 0 → textGo acc i (l ++ x :: b) = textGo acc i l := by
  intro k
  induction k with
  | zero =>
    intro acc i l hl h
    have : l = [] := List.eq_nil_of_length_eq_zero (by omega)
    subst this
    simp [textGo, tErr] at h
  | succ k ih =>
    intro acc i l hl h
    cases l with
    | nil => simp [textGo, tErr] at h
    | cons c l =>
      rw [List.cons_append]
      by_cases hc : c = 39
      · subst hc
        cases l with
        | nil =>
          rw [List.nil_append, textGo_q _ _ _ (by simpa using hx.q), textGo_q _ _ _ (by simp)]
        | cons d l' =>
          by_cases hd : d = 39
          · subst hd
            rw [textGo_qq] at h
            rw [List.cons_append, textGo_qq, textGo_qq]
            exact ih _ _ _ (by simp at hl; omega) h
          · rw [textGo_q _ _ _ (by simpa using hd), textGo_q _ _ _ (by simpa using hd)]
      · rw [textGo_c _ _ _ _ hc] at h ⊢
        rw [textGo_c _ _ _ _ hc]
        exact ih _ _ _ (by simp at hl; omega) h
theorem signF_app {x : UInt8} (hx : Stop x) (a b : List UInt8) (ha : a ≠ []) : signF (a ++ x :: b) = signF a := by
  match a with
  | [] => exact absurd rfl ha
  | [c] => simp [signF, hx.t]
  | c :: d :: l => simp [signF]
theorem tokF_app {x : UInt8} (hx : Stop x) (a b : List UInt8) (ha : a ≠ []) (h : (tokF a).e = 0) : tokF (a ++ x :: b) = tokF a := by
  cases a with
  | nil => exact absurd rfl ha
  | cons c l =>
    rw [List.cons_append]
    simp only [tokF] at h ⊢
    by_cases h1 : isBlank c = true
    · simp [h1]
    · simp only [h1, if_false, Bool.false_eq_true] at h ⊢
      by_cases h2 : isLet c = true
      · simp only [h2, if_true]
        have e := takeWhile_stop hx.w b (c :: l)
        rw [List.cons_append] at e
        unfold runF
        rw [e]
      · simp only [h2, if_false, Bool.false_eq_true] at h ⊢
        by_cases h3 : isDig c = true
        · simp only [h3, if_true]
          have e := numF_app hx (c :: l) b
          rw [List.cons_append] at e
          rw [e]
        · simp only [h3, if_false, Bool.false_eq_true] at h ⊢
          by_cases h4 : c = 39
          · simp only [h4, if_true] at h ⊢
            exact textGo_app hx b _ _ _ _ (Nat.le_refl _) h
          · simp only [h4, if_false] at h ⊢
            have e := signF_app hx (c :: l) b (by simp)
            rw [List.cons_append] at e
            exact e
theorem tokF_blank {x : UInt8} (hx : isBlank x = true) (b : List UInt8) : tokF (x :: b) = ⟨⟨0, [], 0⟩, 1, 0⟩ := by simp [tokF, hx]
theorem textGo_kind : ∀ (k : Nat) (acc : List UInt8) (i : Nat) (l : List UInt8), l.length ≤ k → (textGo acc i l).e = 0 → (textGo acc i l).t.kind = 3 := by
  intro k
  induction k with
  | zero =>
    intro acc i l hl h
    have : l = [] := List.eq_nil_of_length_eq_zero (by omega)
    subst this
    simp [textGo, tErr] at h
  | succ k ih =>
    intro acc i l hl h
    cases l with
    | nil => simp [textGo, tErr] at h
    | cons c l =>
      by_cases hc : c = 39
      · subst hc
        by_cases hd : l.head? = some 39
        · obtain ⟨l', rfl⟩ : ∃ l', l = 39 :: l' := by
            cases l with
            | nil => simp at hd
            | cons d l' => simp at hd; exact ⟨l', by rw [hd]⟩
          rw [textGo_qq] at h ⊢
          exact ih _ _ _ (by simp at hl; omega) h
        · rw [textGo_q _ _ _ hd] at h ⊢
          split at h
          · simp [tErr] at h
          · rename_i h1; rw [if_neg h1]
      · rw [textGo_c _ _ _ _ hc] at h ⊢
        exact ih _ _ _ (by simp at hl; omega) h
/-- A token that is no blank has a kind. -/
theorem tokF_kind {c : UInt8} {l : List UInt8} (hb : isBlank c = false) (h : (tokF (c :: l)).e = 0) : ¬ (tokF (c :: l)).t.kind = 0 := by
  simp only [tokF, hb, if_false, Bool.false_eq_true] at h ⊢
  by_cases h2 : isLet c = true
  · simp [h2]
  · simp only [h2, if_false, Bool.false_eq_true] at h ⊢
    by_cases h3 : isDig c = true
    · simp only [h3, if_true] at h ⊢
      unfold numF at h ⊢
      split at h
      · simp [tErr] at h
      · split at h
        · split at h
          · simp [tErr] at h
          · rename_i hh; simp [hh]
        · simp
    · simp only [h3, if_false, Bool.false_eq_true] at h ⊢
      by_cases h4 : c = 39
      · simp only [h4, if_true] at h ⊢
        rw [textGo_kind _ _ _ _ (Nat.le_refl _) h]
        decide
      · simp only [h4, if_false] at h ⊢
        match l with
        | [] =>
          simp only [signF] at h ⊢
          split at h
          · rename_i h1; simp [h1]
          · simp [tErr] at h
        | b :: l =>
          simp only [signF] at h ⊢
          split at h
          · rename_i h1; simp [h1]
          · rename_i h1
            split at h
            · rename_i h2; simp [h1, h2]
            · simp [tErr] at h
theorem lexFrom_res (i : Nat) (s : List UInt8) (h : (lexFrom i s).1 ≠ 0) : lexFrom i s = ((lexFrom i s).1, []) := by
  by_cases hs : s = []
  · subst hs; rw [lexFrom_nil] at h; exact absurd rfl h
  · by_cases he : (tokF s).e = 0
    · rw [lexFrom_go hs he] at h ⊢
      split
      · rename_i h1; rw [if_pos h1] at h; exact absurd rfl h
      · rfl
    · rw [lexFrom_err hs he]
theorem lexFrom_pair (i : Nat) (s : List UInt8) : lexFrom i s = if (lexFrom i s).1 = 0 then (0, (lexFrom i s).2) else ((lexFrom i s).1, []) := by
  split
  · rename_i h; rw [← h]
  · rename_i h; exact lexFrom_res i s h
theorem lexFrom_blank {x : UInt8} (hx : isBlank x = true) (i : Nat) (b : List UInt8) : lexFrom i (x :: b) = lexFrom (i + 1) b := by
  rw [lexFrom_go (by simp) (by rw [tokF_blank hx]), tokF_blank hx]
  simp only [List.drop_one, List.tail_cons, if_true, List.nil_append]
  exact (lexFrom_pair _ _).symm
/-- Behind a beginning whose tokens are fine. -/
def thenL (x y : Nat × List (Nat × Tok)) : Nat × List (Nat × Tok) := if y.1 = 0 then (0, x.2 ++ y.2) else (y.1, [])
theorem lexFrom_app {x : UInt8} (hx : Stop x) (b : List UInt8) : ∀ (k : Nat) (a : List UInt8) (i : Nat), a.length ≤ k → (lexFrom i a).1 = 0 → lexFrom i (a ++ x :: b) = thenL (lexFrom i a) (lexFrom (i + a.length + 1) b) := by
  intro k
  induction k with
  | zero =>
    intro a i hl h
    have : a = [] := List.eq_nil_of_length_eq_zero (by omega)
    subst this
    rw [List.nil_append, lexFrom_blank hx.b, lexFrom_nil, lexFrom_pair]
    rfl
  | succ k ih =>
    intro a i hl h
    by_cases ha : a = []
    · subst ha
      rw [List.nil_append, lexFrom_blank hx.b, lexFrom_nil, lexFrom_pair]
      rfl
    · by_cases he : (tokF a).e = 0
      · have hp := tokF_pos he
        have e := tokF_app hx a b ha he
        rw [lexFrom_go ha he] at h ⊢
        rw [lexFrom_go (by simp) (by rw [e]; exact he), e]
        rw [List.drop_append_of_le_length hp.2]
        have h' : (lexFrom (i + (tokF a).n) (a.drop (tokF a).n)).1 = 0 := by
          by_cases h1 : (lexFrom (i + (tokF a).n) (a.drop (tokF a).n)).1 = 0
          · exact h1
          · rw [if_neg h1] at h; exact h
        rw [ih _ _ (by simp; omega) h', if_pos h']
        unfold thenL
        simp only [List.length_drop]
        rw [show i + (tokF a).n + (a.length - (tokF a).n) + 1 = i + a.length + 1 from by omega]
        split
        · rename_i h2
          simp [h2]
        · rename_i h2
          simp [h2]
      · rw [lexFrom_err ha he] at h
        exact absurd h he
/-- A text's tokens do not hang on where it lies. -/
theorem lexFrom_at : ∀ (k : Nat) (s : List UInt8) (i : Nat), s.length ≤ k → lexFrom i s = ((lexFrom 0 s).1, (lexFrom 0 s).2.map fun x => (x.1 + i, x.2)) := by
  intro k
  induction k with
  | zero =>
    intro s i hl
    have : s = [] := List.eq_nil_of_length_eq_zero (by omega)
    subst this
    rw [lexFrom_nil, lexFrom_nil]; rfl
  | succ k ih =>
    intro s i hl
    by_cases hs : s = []
    · subst hs
      rw [lexFrom_nil, lexFrom_nil]; rfl
    · by_cases he : (tokF s).e = 0
      · have hp := tokF_pos he
        rw [lexFrom_go hs he, lexFrom_go (i := 0) hs he]
        rw [ih (s.drop (tokF s).n) (i + (tokF s).n) (by simp; omega), ih (s.drop (tokF s).n) (0 + (tokF s).n) (by simp; omega)]
        dsimp only
        split
        · rename_i h1
          simp only [h1, List.map_append, List.map_map, Function.comp_def, if_true]
          congr 1
          split
          · simp only [List.nil_append, List.map_nil]
            exact List.map_congr_left fun x _ => by rw [show x.1 + (i + (tokF s).n) = x.1 + (0 + (tokF s).n) + i from by omega]
          · simp only [List.map_cons, List.map_nil, Nat.zero_add]
            congr 1
            exact List.map_congr_left fun x _ => by rw [show x.1 + (i + (tokF s).n) = x.1 + (tokF s).n + i from by omega]
        · rename_i h1
          simp [h1]
      · rw [lexFrom_err hs he, lexFrom_err hs he]; rfl

/-- There are no more tokens than bytes. -/
theorem lexFrom_len : ∀ (k : Nat) (s : List UInt8) (i : Nat), s.length ≤ k → (lexFrom i s).2.length ≤ s.length := by
  intro k
  induction k with
  | zero =>
    intro s i hl
    have : s = [] := List.eq_nil_of_length_eq_zero (by omega)
    subst this
    rw [lexFrom_nil]; simp
  | succ k ih =>
    intro s i hl
    by_cases hs : s = []
    · subst hs
      rw [lexFrom_nil]; simp
    · by_cases he : (tokF s).e = 0
      · have hp := tokF_pos he
        rw [lexFrom_go hs he]
        have := ih (s.drop (tokF s).n) (i + (tokF s).n) (by simp; omega)
        rw [List.length_drop] at this
        split
        · simp only [List.length_append]
          split <;> simp <;> omega
        · simp
      · rw [lexFrom_err hs he]; simp

/-! ### tokens written anew -/
def digL (n : Nat) : List UInt8 := if h : n < 10 then [UInt8.ofNat (48 + n)] else digL (n / 10) ++ [UInt8.ofNat (48 + n % 10)]
termination_by n
theorem numGo_app : ∀ (a b : List UInt8) (v : Nat), numGo v (a ++ b) = (numGo v a).bind fun x => numGo x b
  | [], b, v => rfl
  | c :: a, b, v => by
    simp only [List.cons_append, numGo]
    split
    · rfl
    · exact numGo_app a b _
theorem dig_nat (d : Nat) (h : d < 10) : (UInt8.ofNat (48 + d)).toNat - 48 = d := by
  rw [UInt8.toNat_ofNat']; omega
theorem dig_is (d : Nat) (h : d < 10) : isDig (UInt8.ofNat (48 + d)) = true := by
  have : ∀ d : Fin 10, isDig (UInt8.ofNat (48 + d.val)) = true := by decide
  exact this ⟨d, h⟩
theorem digL_num : ∀ (k n : Nat), n ≤ k → n ≤ maxI → numGo 0 (digL n) = some n := by
  intro k
  induction k with
  | zero =>
    intro n hk hn
    have : n = 0 := by omega
    subst this
    unfold digL
    rfl
  | succ k ih =>
    intro n hk hn
    unfold digL
    split
    · rename_i h
      simp only [numGo, dig_nat n h]
      rw [if_neg (by omega)]
      simp
    · rename_i h
      rw [numGo_app, ih (n / 10) (by omega) (by omega)]
      simp only [Option.bind_some, numGo, dig_nat (n % 10) (by omega)]
      rw [if_neg (by omega)]
      congr 1
      omega
theorem digL_all : ∀ (k n : Nat), n ≤ k → (digL n).all isDig = true := by
  intro k
  induction k with
  | zero =>
    intro n hk
    have : n = 0 := by omega
    subst this
    unfold digL
    rfl
  | succ k ih =>
    intro n hk
    unfold digL
    split
    · rename_i h
      simp only [List.all_cons, List.all_nil, dig_is n h, Bool.and_self]
    · rename_i h
      rw [List.all_append, ih (n / 10) (by omega)]
      simp only [List.all_cons, List.all_nil, dig_is (n % 10) (by omega), Bool.and_self]
theorem digL_ne (n : Nat) : digL n ≠ [] := by
  unfold digL
  split <;> simp
theorem takeWhile_id {p : UInt8 → Bool} : ∀ {a : List UInt8}, a.all p = true → a.takeWhile p = a ∧ a.dropWhile p = []
  | [], _ => ⟨rfl, rfl⟩
  | c :: a, h => by
    simp only [List.all_cons, Bool.and_eq_true] at h
    obtain ⟨h1, h2⟩ := takeWhile_id h.2
    simp [List.takeWhile_cons, List.dropWhile_cons, h.1, h1, h2]
theorem takeWhile_all {p : UInt8 → Bool} {x : UInt8} (hp : p x = false) (b : List UInt8) {a : List UInt8} (ha : a.all p = true) : (a ++ x :: b).takeWhile p = a := by
  rw [takeWhile_stop hp]
  exact (takeWhile_id ha).1
theorem dropWhile_all {p : UInt8 → Bool} {x : UInt8} (hp : p x = false) (b : List UInt8) {a : List UInt8} (ha : a.all p = true) : (a ++ x :: b).dropWhile p = x :: b := by
  rw [dropWhile_stop hp]
  rw [(takeWhile_id ha).2]; rfl
theorem dig_word {c : UInt8} (h : isDig c = true) : isLet c = false ∧ isBlank c = false := by
  have key := u8_all (p := fun c => !isDig c || (!isLet c && !isBlank c)) (by decide +kernel) c
  simp [h] at key
  exact key
theorem tok_dig (n : Nat) (hn : n ≤ maxI) (r : List UInt8) : tokF (digL n ++ 32 :: r) = ⟨⟨2, [], n⟩, (digL n).length, 0⟩ := by
  have hall := digL_all n n (Nat.le_refl _)
  have hnum := digL_num n n (Nat.le_refl _) hn
  have h1 := takeWhile_all stop32.d r hall
  have h2 := dropWhile_all stop32.d r hall
  have hne := digL_ne n
  generalize digL n = l at *
  cases l with
  | nil => exact absurd rfl hne
  | cons c l =>
    have hc : isDig c = true := by simp at hall; exact hall.1
    obtain ⟨a1, a2⟩ := dig_word hc
    rw [List.cons_append] at h1 h2 ⊢
    simp only [tokF, a1, a2, hc, if_true, if_false, Bool.false_eq_true]
    unfold numF runF
    rw [h1, h2, hnum]
    simp [stop32.l]
def wordOk (s : List UInt8) : Bool := (match s with | [] => false | c :: _ => !isDig c) && s.all isWordy && decide (s.map upB = s)
theorem tok_word (s : List UInt8) (h : wordOk s = true) (r : List UInt8) : tokF (s ++ 32 :: r) = ⟨⟨1, s, 0⟩, s.length, 0⟩ := by
  unfold wordOk at h
  cases s with
  | nil => simp at h
  | cons c l =>
    simp only [Bool.and_eq_true, decide_eq_true_eq] at h
    obtain ⟨⟨h0, hall⟩, hup⟩ := h
    have hc : isLet c = true := by
      simp [isWordy] at hall h0
      rcases hall.1 with h1 | h1
      · exact h1
      · rw [h0] at h1; cases h1
    have hb : isBlank c = false := by
      have key := u8_all (p := fun c => !isLet c || !isBlank c) (by decide +kernel) c
      simpa [hc] using key
    have h1 := takeWhile_all stop32.w r hall
    rw [List.cons_append] at h1 ⊢
    simp only [tokF, hb, hc, if_true, if_false, Bool.false_eq_true]
    unfold runF
    rw [h1, hup]
/-- Each quote stands twice. -/
def dbl (s : List UInt8) : List UInt8 := s.flatMap fun c => if c = 39 then [39, 39] else [c]
theorem textGo_dbl (r : List UInt8) : ∀ (s acc : List UInt8) (i : Nat), textGo acc i (dbl s ++ 39 :: 32 :: r) = if 64 < (acc ++ s).length then tErr 3 else ⟨⟨3, acc ++ s, 0⟩, i + (dbl s).length + 1, 0⟩
  | [], acc, i => by
    simp only [dbl, List.flatMap_nil, List.nil_append, List.append_nil, List.length_nil, Nat.add_zero]
    unfold textGo
    simp
  | c :: s, acc, i => by
    by_cases hc : c = 39
    · subst hc
      have e : dbl (39 :: s) = 39 :: 39 :: dbl s := by simp [dbl]
      rw [e, List.cons_append, List.cons_append]
      unfold textGo
      simp only [if_true]
      rw [textGo_dbl r s (acc ++ [39]) (i + 2)]
      simp only [List.append_assoc, List.singleton_append, List.length_cons]
      rw [show i + 2 + (dbl s).length + 1 = i + ((dbl s).length + 1 + 1) + 1 from by omega]
    · have e : dbl (c :: s) = c :: dbl s := by simp [dbl, hc]
      rw [e, List.cons_append]
      unfold textGo
      rw [if_neg hc, textGo_dbl r s (acc ++ [c]) (i + 1)]
      simp only [List.append_assoc, List.singleton_append, List.length_cons]
      rw [show i + 1 + (dbl s).length + 1 = i + ((dbl s).length + 1) + 1 from by omega]
theorem tok_text (s : List UInt8) (h : s.length ≤ 64) (r : List UInt8) : tokF ((39 :: dbl s ++ [39]) ++ 32 :: r) = ⟨⟨3, s, 0⟩, (39 :: dbl s ++ [39]).length, 0⟩ := by
  have e := textGo_dbl r s [] 1
  simp only [List.nil_append] at e
  rw [if_neg (by omega)] at e
  have e2 : (39 :: dbl s ++ [39]) ++ 32 :: r = 39 :: (dbl s ++ 39 :: 32 :: r) := by simp
  rw [e2]
  have : tokF (39 :: (dbl s ++ 39 :: 32 :: r)) = textGo [] 1 (dbl s ++ 39 :: 32 :: r) := by
    simp only [tokF]
    rw [if_neg (by decide), if_neg (by decide), if_neg (by decide)]
    rfl
  rw [this, e]
  simp [Nat.add_comm]
/-- A token's text, which is read as that token ahead of a blank. -/
def Good (x : List UInt8 × Tok) : Prop := x.1 ≠ [] ∧ x.2.kind ≠ 0 ∧ ∀ r, tokF (x.1 ++ 32 :: r) = ⟨x.2, x.1.length, 0⟩
def sepL (tab : Bool) : List UInt8 := if tab then [32, 9, 10] else [32]
def backS (tab : Bool) (l : List (List UInt8 × Tok)) : List UInt8 := l.flatMap fun x => x.1 ++ sepL tab
def backW (tab : Bool) : Nat → List (List UInt8 × Tok) → List (Nat × Tok)
  | _, [] => []
  | i, x :: l => (i, x.2) :: backW tab (i + x.1.length + (sepL tab).length) l
theorem lex_back (tab : Bool) : ∀ (l : List (List UInt8 × Tok)) (i : Nat), (∀ x ∈ l, Good x) → lexFrom i (backS tab l) = (0, backW tab i l)
  | [], i, _ => by
    simp only [backS, List.flatMap_nil, backW]
    exact lexFrom_nil i
  | x :: l, i, h => by
    obtain ⟨h1, h2, h3⟩ := h x (by simp)
    have ih := lex_back tab l (i + x.1.length + (sepL tab).length) fun y hy => h y (by simp [hy])
    have key : ∀ rest, lexFrom i (x.1 ++ sepL tab ++ rest) = if (lexFrom (i + x.1.length + (sepL tab).length) rest).1 = 0 then (0, (i, x.2) :: (lexFrom (i + x.1.length + (sepL tab).length) rest).2) else ((lexFrom (i + x.1.length + (sepL tab).length) rest).1, []) := by
      intro rest
      have e : ∃ q, x.1 ++ sepL tab ++ rest = x.1 ++ 32 :: q ∧ lexFrom (i + x.1.length) (32 :: q) = lexFrom (i + x.1.length + (sepL tab).length) rest := by
        cases tab
        · exact ⟨rest, by simp [sepL], by rw [lexFrom_blank (by decide)]; rfl⟩
        · exact ⟨9 :: 10 :: rest, by simp [sepL], by rw [lexFrom_blank (by decide), lexFrom_blank (by decide), lexFrom_blank (by decide)]; rfl⟩
      obtain ⟨q, e1, e2⟩ := e
      have ht := h3 q
      rw [e1, lexFrom_go (by simp) (by rw [ht]), ht]
      simp only [List.drop_left]
      rw [e2, if_neg h2]
      rfl
    have e : backS tab (x :: l) = x.1 ++ sepL tab ++ backS tab l := by simp [backS]
    rw [e, key, ih]
    rfl
end Go.Proofs.Ytcckifllammpbaa
