/-
  The plain model of what expressions say: kinds, values; no program in sight.
-/
import Derived.Test.YtakbikibahhepaaExM
import Derived.Test.YtakbikibahhepaaOrd
set_option linter.unusedSimpArgs false
set_option linter.unusedVariables false
namespace Go.Proofs.Ytakbikibahhepaa

/-- The operators. -/
inductive Opk where | none | isnull | notnull | not_ | neg | or_ | and_ | add | sub | mul | div | mod | eq | ne | lt | le | gt | ge
deriving DecidableEq
def opk (s : List UInt8) : Opk :=
  if s = [73, 83, 78, 85, 76, 76] then .isnull else if s = [78, 79, 84, 78, 85, 76, 76] then .notnull else if s = [78, 79, 84] then .not_ else if s = [78, 69, 71] then .neg
  else if s = [79, 82] then .or_ else if s = [65, 78, 68] then .and_ else if s = [43] then .add else if s = [45] then .sub else if s = [42] then .mul else if s = [47] then .div else if s = [37] then .mod
  else if s = [61] then .eq else if s = [60, 62] then .ne else if s = [60] then .lt else if s = [60, 61] then .le else if s = [62] then .gt else if s = [62, 61] then .ge else .none

def mayV (v : Val) : Bool :=
  if v.kind = 0 then decide (v.n = 0) && decide (v.s = []) else if v.kind = 1 then (decide (v.n = 0) || decide (v.n = 1)) && decide (v.s = []) else if v.kind = 2 then decide (v.s = [])
  else if v.kind = 3 then decide (v.n = 0) && decide (v.s.length ≤ 64) else false

/-! ### kinds -/
def toldF (many such : Bool) (kind : Int) : Int × Int := if many = false then (0, 9) else if such = false then (0, 15) else (kind, 0)
def kAll (l : List Int) (kind : Int) : Bool := l.all fun k => decide (k = kind) || decide (k = 0)
def pairB : List Int → Bool
  | [a, b] => decide (a = b) || (decide (a = 0) || decide (b = 0))
  | _ => false
def operF (o : Opk) (l : List Int) : Int × Int :=
  match o with
  | .isnull | .notnull => toldF (decide (l.length = 1)) true 1
  | .not_ => toldF (decide (l.length = 1)) (kAll l 1) 1
  | .neg => toldF (decide (l.length = 1)) (kAll l 2) 2
  | .or_ | .and_ => toldF (decide (l.length = 2)) (kAll l 1) 1
  | .add | .sub | .mul | .div | .mod => toldF (decide (l.length = 2)) (kAll l 2) 2
  | .eq | .ne | .lt | .le | .gt | .ge => toldF (decide (l.length = 2)) (pairB l) 1
  | .none => (0, 9)
/-- The document's. -/
def argsF (o : Opk) : Nat :=
  match o with
  | .none => 0
  | .isnull | .notnull | .not_ | .neg => 1
  | _ => 2
def logicB (o : Opk) : Bool := match o with | .or_ | .and_ | .not_ => true | _ => false
def arithB (o : Opk) : Bool := match o with | .add | .sub | .mul | .div | .mod | .neg => true | _ => false
def kindOpF (o : Opk) (l : List Int) : Int × Int :=
  if argsF o = 0 ∨ argsF o ≠ l.length then (0, 9)
  else if (logicB o && !kAll l 1) || (arithB o && !kAll l 2) then (0, 15)
  else if arithB o then (2, 0)
  else if !logicB o && (decide (l.length = 2) && !pairB l) then (0, 15) else (1, 0)
theorem oper_kindOp (o : Opk) (l : List Int) : operF o l = kindOpF o l := by
  rcases l with _ | ⟨a, _ | ⟨b, _ | ⟨c, l⟩⟩⟩
  · cases o <;> simp [operF, kindOpF, toldF, argsF, logicB, arithB]
  · cases o <;> simp [operF, kindOpF, toldF, argsF, logicB, arithB, kAll]
  · cases o <;> simp [operF, kindOpF, toldF, argsF, logicB, arithB]
  · cases o <;> simp [operF, kindOpF, toldF, argsF, logicB, arithB]
/-- A column. -/
structure Clm where
  nm : List UInt8
  kind : Int
  null : Bool
deriving DecidableEq
/-- The place of the column of a name. -/
def colF : List Clm → List UInt8 → Option Nat
  | [], _ => none
  | c :: l, s => if c.nm = s then some 0 else (colF l s).map (· + 1)
mutual
def typedF (cols : List Clm) : Ex → Int × Int
  | .mk k s v l =>
    if k = 1 then (if s ≠ [] ∨ l ≠ [] ∨ mayV v = false then (0, 9) else (v.kind, 0))
    else if k = 2 then (match colF cols s with
      | none => (0, 14)
      | some i => if l ≠ [] ∨ v ≠ .zero then (0, 9) else ((cols[i]?.map (·.kind)).getD 0, 0))
    else if k = 3 then (match typedL cols l with
      | .error e => (0, e)
      | .ok ks => if v ≠ .zero then (0, 9) else operF (opk s) ks)
    else (0, 9)
def typedL (cols : List Clm) : List Ex → Except Int (List Int)
  | [] => .ok []
  | a :: l => if (typedF cols a).2 ≠ 0 then .error (typedF cols a).2 else match typedL cols l with
    | .error e => .error e
    | .ok ks => .ok ((typedF cols a).1 :: ks)
end
/-- Type, of the program and of the document. -/
def typeF (cols : List Clm) (e : Ex) : Int × Int := if (smallF e 1 0).1 then typedF cols e else (0, 3)

/-! ### values -/
def i64B (n : Int) : Bool := decide (-9223372036854775808 ≤ n) && decide (n ≤ 9223372036854775807)
/-- A number that is an int64, or the error. -/
def fitF (n : Int) : Int × Int := if i64B n then (n, 0) else (0, 5)
def truthV (b : Bool) : Val := ⟨1, if b then 1 else 0, []⟩
def numF (r : Int × Int) : Val × Int := if r.2 ≠ 0 then (.zero, r.2) else (⟨2, r.1, []⟩, 0)
/-- -1, 0, 1: as a value stands before another one. -/
def sgn (a b : Int) : Int := if a < b then -1 else if b < a then 1 else 0
def cmpV (a b : Val) : Int := if sgn a.kind b.kind ≠ 0 then sgn a.kind b.kind else if sgn a.n b.n ≠ 0 then sgn a.n b.n else Lib.compareBytes a.s b.s
def holdsF (o : Opk) (c : Int) : Bool :=
  match o with
  | .eq => decide (c = 0)
  | .ne => decide (c ≠ 0)
  | .lt => decide (c < 0)
  | .le => decide (c ≤ 0)
  | .gt => decide (0 < c)
  | _ => decide (0 ≤ c)
def reckF (o : Opk) (a b : Int) : Int × Int :=
  match o with
  | .add => fitF (a + b)
  | .sub => fitF (a - b)
  | .mul => fitF (a * b)
  | .mod => if b = 0 then (0, 17) else (a.tmod b, 0)
  | _ => if b = 0 then (0, 17) else fitF (a.tdiv b)
/-- AND (of 0), OR (of 1). -/
def bothF (wins : Int) (a b : Val) : Val :=
  if a.kind ≠ 0 ∧ a.n = wins then a else if b.kind ≠ 0 ∧ b.n = wins then b else if a.kind = 0 ∨ b.kind = 0 then .zero else truthV (decide (wins = 0))
def doesF (o : Opk) (l : List Val) : Val × Int :=
  let a := (l[0]?).getD .zero
  let b := (l[1]?).getD .zero
  match o with
  | .isnull => (truthV (decide (a.kind = 0)), 0)
  | .notnull => (truthV (decide (a.kind ≠ 0)), 0)
  | .and_ => (bothF 0 a b, 0)
  | .or_ => (bothF 1 a b, 0)
  | .not_ => if a.kind = 0 then (.zero, 0) else (truthV (decide (a ≠ ⟨1, 1, []⟩)), 0)
  | .neg => if a.kind = 0 then (.zero, 0) else numF (fitF (-a.n))
  | .eq | .ne | .lt | .le | .gt | .ge => if a.kind = 0 ∨ b.kind = 0 then (.zero, 0) else (truthV (holdsF o (cmpV a b)), 0)
  | _ => if a.kind = 0 ∨ b.kind = 0 then (.zero, 0) else numF (reckF o a.n b.n)
mutual
def evalF (cols : List Clm) (row : List Val) : Ex → Val × Int
  | .mk k s v l =>
    if k = 1 then (v, 0)
    else if k = 2 then ((row[(colF cols s).getD 0]?).getD .zero, 0)
    else match evalL cols row l with
      | .error e => (.zero, e)
      | .ok vs => doesF (opk s) vs
def evalL (cols : List Clm) (row : List Val) : List Ex → Except Int (List Val)
  | [] => .ok []
  | a :: l => if (evalF cols row a).2 ≠ 0 then .error (evalF cols row a).2 else match evalL cols row l with
    | .error e => .error e
    | .ok vs => .ok ((evalF cols row a).1 :: vs)
end
def mayRowB (cols : List Clm) (row : List Val) : Bool :=
  decide (row.length = cols.length) && (row.zip cols).all fun p => mayV p.1 && (decide (p.1.kind = p.2.kind) || decide (p.1.kind = 0))
/-- Eval, of the program and of the document. -/
def evalTF (cols : List Clm) (row : List Val) (e : Ex) : Val × Int :=
  if (typeF cols e).2 ≠ 0 then (.zero, (typeF cols e).2) else if mayRowB cols row then evalF cols row e else (.zero, 9)
def isTrue (v : Val) : Bool := decide (v = ⟨1, 1, []⟩)

/-! ### what kinds tell of values -/
theorem typedL_err {cols : List Clm} : ∀ (l : List Ex) (e : Int), typedL cols l = .error e → e ≠ 0
  | [], e, h => by simp [typedL] at h
  | a :: l, e, h => by
    simp only [typedL] at h
    split at h
    · rename_i h0
      injection h with h
      exact h ▸ h0
    · cases ht : typedL cols l with
      | error e' =>
        rw [ht] at h
        simp only at h
        injection h with h
        exact h ▸ typedL_err l e' ht
      | ok ks =>
        rw [ht] at h
        simp at h
theorem typedL_ok {cols : List Clm} : ∀ {l : List Ex} {ks : List Int}, typedL cols l = .ok ks → ks.length = l.length ∧ ∀ i (h : i < l.length) (h' : i < ks.length), (typedF cols l[i]).2 = 0 ∧ (typedF cols l[i]).1 = ks[i]
  | [], ks, h => by
    simp only [typedL] at h
    injection h with h
    subst h
    exact ⟨rfl, fun i h => absurd h (Nat.not_lt_zero _)⟩
  | a :: l, ks, h => by
    simp only [typedL] at h
    split at h
    · cases h
    · rename_i h0
      cases ht : typedL cols l with
      | error e' => rw [ht] at h; cases h
      | ok ks' =>
        rw [ht] at h
        simp only at h
        injection h with h
        subst h
        obtain ⟨h1, h2⟩ := typedL_ok ht
        refine ⟨by simp [h1], fun i hi hi' => ?_⟩
        cases i with
        | zero => exact ⟨by simpa using h0, rfl⟩
        | succ i => simpa using h2 i (by simpa using hi) (by simpa using hi')
theorem typed_op {cols : List Clm} {k : Int} {s : List UInt8} {v : Val} {l : List Ex} (h1 : k ≠ 1) (h2 : k ≠ 2) (h : (typedF cols (.mk k s v l)).2 = 0) :
    k = 3 ∧ v = .zero ∧ ∃ ks, typedL cols l = .ok ks ∧ typedF cols (.mk k s v l) = operF (opk s) ks := by
  unfold typedF at h ⊢
  rw [if_neg h1, if_neg h2] at h ⊢
  split at h
  · rename_i h3
    subst h3
    cases ht : typedL cols l with
    | error e =>
      rw [ht] at h
      exact absurd h (typedL_err l e ht)
    | ok ks =>
      rw [ht] at h
      simp only at h
      split at h
      · simp at h
      · rename_i hv
        rw [if_pos rfl]
        simp only [if_neg hv]
        exact ⟨trivial, by simpa using hv, ks, rfl, rfl⟩
  · simp at h
theorem oper_len {o : Opk} {ks : List Int} (h : (operF o ks).2 = 0) : ks.length = argsF o ∧ o ≠ .none := by
  rw [oper_kindOp] at h
  unfold kindOpF at h
  split at h
  · simp at h
  · rename_i hn
    refine ⟨by omega, ?_⟩
    rintro rfl
    exact hn (.inl rfl)
end Go.Proofs.Ytakbikibahhepaa
