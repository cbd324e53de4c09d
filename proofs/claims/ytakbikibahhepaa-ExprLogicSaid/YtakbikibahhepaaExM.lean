/-
  The plain model of expressions: trees, their sizes, kinds and values; and how they lie in memory.
-/
import Derived.Test.YtakbikibahhepaaLib3
set_option linter.unusedSimpArgs false
set_option linter.unusedVariables false
namespace Go.Proofs.Ytakbikibahhepaa
open Go.RowKit

@[go_sem] theorem str_toL (l : List UInt8) : (str l).toList = l := by rw [ByteArray.toList_eq]; rfl
structure Val where
  kind : Int
  n : Int
  s : List UInt8
deriving DecidableEq
inductive Ex where
  | mk (kind : Int) (s : List UInt8) (v : Val) (args : List Ex)
def Ex.kind : Ex → Int | .mk k _ _ _ => k
def Ex.s : Ex → List UInt8 | .mk _ s _ _ => s
def Ex.v : Ex → Val | .mk _ _ v _ => v
def Ex.args : Ex → List Ex | .mk _ _ _ l => l
def Val.zero : Val := ⟨0, 0, []⟩

/-- Trees by induction on their arguments. -/
theorem Ex.ind {P : Ex → Prop} (h : ∀ k s v l, (∀ a ∈ l, P a) → P (.mk k s v l)) : ∀ e, P e :=
  fun e => Ex.rec (motive_1 := P) (motive_2 := fun l => ∀ a ∈ l, P a) (fun k s v l ih => h k s v l ih) (fun a ha => by simp at ha) (fun a l ha hl b hb => by
    rcases List.mem_cons.1 hb with rfl | hb
    · exact ha
    · exact hl b hb) e

/-! ### sizes -/
mutual
/-- The program's count of parts: (is it small?, how many were counted). -/
def smallF : Ex → Nat → Nat → Bool × Nat
  | .mk _ _ _ l, d, p => if 64 < d ∨ 4096 < p + 1 then (false, p + 1) else smallL l d (p + 1)
def smallL : List Ex → Nat → Nat → Bool × Nat
  | [], _, p => (true, p)
  | a :: l, d, p => let r := smallF a (d + 1) p; if r.1 then smallL l d r.2 else r
end
mutual
/-- The document's: (what is left, is it great?). -/
def greatF : Ex → Nat → Nat → Nat × Bool
  | .mk _ _ _ l, d, q => if 64 < d ∨ q = 0 then (0, true) else greatL l d (q - 1)
def greatL : List Ex → Nat → Nat → Nat × Bool
  | [], _, q => (q, false)
  | a :: l, d, q => let r := greatF a (d + 1) q; if r.2 then (0, true) else greatL l d r.1
end
theorem great_small : ∀ e : Ex, ∀ d p : Nat, p ≤ 4096 → ((greatF e d (4096 - p)).2 = !(smallF e d p).1) ∧ ((smallF e d p).1 = true → (smallF e d p).2 ≤ 4096 ∧ (greatF e d (4096 - p)).1 = 4096 - (smallF e d p).2) := by
  apply Ex.ind
  intro k s v l ih d p hp
  have hl : ∀ l : List Ex, (∀ a ∈ l, ∀ d p : Nat, p ≤ 4096 → ((greatF a d (4096 - p)).2 = !(smallF a d p).1) ∧ ((smallF a d p).1 = true → (smallF a d p).2 ≤ 4096 ∧ (greatF a d (4096 - p)).1 = 4096 - (smallF a d p).2)) →
      ∀ d p : Nat, p ≤ 4096 → ((greatL l d (4096 - p)).2 = !(smallL l d p).1) ∧ ((smallL l d p).1 = true → (smallL l d p).2 ≤ 4096 ∧ (greatL l d (4096 - p)).1 = 4096 - (smallL l d p).2) := by
    intro l
    induction l with
    | nil => intro _ d p hp; simp [greatL, smallL, hp]
    | cons a l ihl =>
      intro h d p hp
      obtain ⟨h1, h2⟩ := h a (by simp) (d + 1) p hp
      simp only [greatL, smallL]
      cases hs : (smallF a (d + 1) p).1
      · rw [hs] at h1
        simp [h1, hs]
      · rw [hs] at h1
        obtain ⟨h3, h4⟩ := h2 hs
        simp only [h1, h4, Bool.not_true, Bool.false_eq_true, if_false, if_true]
        exact ihl (fun b hb => h b (by simp [hb])) d _ h3
  unfold greatF smallF
  by_cases hd : 64 < d
  · simp [hd]
  · by_cases hq : p = 4096
    · subst hq
      simp
    · have e1 : ¬ (64 < d ∨ 4096 - p = 0) := by omega
      have e2 : ¬ (64 < d ∨ 4096 < p + 1) := by omega
      rw [if_neg e1, if_neg e2]
      have := hl l ih d (p + 1) (by omega)
      rw [show 4096 - p - 1 = 4096 - (p + 1) from by omega]
      exact this
mutual
/-- What is left of a light expression's measure. -/
def lightF : Ex → Nat → Nat
  | .mk _ s v l, q => if q = 0 ∨ 100 < s.length ∨ 200 < v.s.length then 0 else lightL l (q - 1)
def lightL : List Ex → Nat → Nat
  | [], q => q
  | a :: l, q => if q = 0 then 0 else lightL l (lightF a q)
end
mutual
def Ex.size : Ex → Nat
  | .mk _ _ _ l => sizeL l + 1
def sizeL : List Ex → Nat
  | [] => 0
  | a :: l => a.size + sizeL l
end
mutual
def Ex.deep : Ex → Nat
  | .mk _ _ _ l => deepL l + 1
def deepL : List Ex → Nat
  | [] => 0
  | a :: l => max a.deep (deepL l)
end
theorem lightL_zero : ∀ l : List Ex, lightL l 0 = 0
  | [] => rfl
  | a :: l => by simp [lightL]
theorem light_size : ∀ e : Ex, ∀ q : Nat, lightF e q ≠ 0 → e.size + lightF e q ≤ q := by
  apply Ex.ind
  intro k s v l ih q h
  have hl : ∀ l : List Ex, (∀ a ∈ l, ∀ q : Nat, lightF a q ≠ 0 → a.size + lightF a q ≤ q) → ∀ q, lightL l q ≠ 0 → sizeL l + lightL l q ≤ q := by
    intro l
    induction l with
    | nil => intro _ q _; simp [lightL, sizeL]
    | cons a l ihl =>
      intro h q hq
      simp only [lightL] at hq ⊢
      by_cases h0 : q = 0
      · rw [if_pos h0] at hq; exact absurd rfl hq
      · rw [if_neg h0] at hq ⊢
        by_cases h1 : lightF a q = 0
        · rw [h1, lightL_zero] at hq; exact absurd rfl hq
        · have := h a (by simp) q h1
          have := ihl (fun b hb => h b (by simp [hb])) _ hq
          simp only [sizeL]
          omega
  unfold lightF at h ⊢
  split at h
  · exact absurd rfl h
  · rename_i hn
    rw [if_neg hn]
    have := hl l ih (q - 1) h
    simp only [Ex.size]
    omega
theorem sizeL_len : ∀ l : List Ex, l.length ≤ sizeL l
  | [] => by simp
  | a :: l => by
    have := sizeL_len l
    have : 0 < a.size := by cases a; simp [Ex.size]
    simp only [sizeL, List.length_cons]
    omega
theorem size_mem : ∀ {l : List Ex} {a : Ex}, a ∈ l → a.size ≤ sizeL l
  | b :: l, a, h => by
    simp only [sizeL]
    rcases List.mem_cons.1 h with rfl | h
    · omega
    · have := size_mem h; omega
theorem deep_mem : ∀ {l : List Ex} {a : Ex}, a ∈ l → a.deep ≤ deepL l
  | b :: l, a, h => by
    simp only [deepL]
    rcases List.mem_cons.1 h with rfl | h
    · omega
    · have := deep_mem h; omega

/-! ### how they lie -/
def valCs (v : Val) : List Value := [.int .i64 v.kind, .int .i64 v.n, .string (str v.s)]
abbrev valV (v : Val) : Value := .agg #[.int .i64 v.kind, .int .i64 v.n, .string (str v.s)]
/-- An expression's own cells; u: the slice of its arguments. -/
def exCs (u : Value) (e : Ex) : List Value := [.int .i64 e.kind, .string (str e.s), .int .i64 e.v.kind, .int .i64 e.v.n, .string (str e.v.s), u]
abbrev exV (u : Value) (e : Ex) : Value := .agg #[.int .i64 e.kind, .string (str e.s), .int .i64 e.v.kind, .int .i64 e.v.n, .string (str e.v.s), u]
theorem valCs_len (v : Val) : (valCs v).length = 3 := rfl
theorem exCs_len (u : Value) (e : Ex) : (exCs u e).length = 6 := rfl
theorem flat_at6 : ∀ (l : List (Value × Ex)) (i j : Nat) (h : i < l.length), j < 6 → (l.flatMap fun p => exCs p.1 p.2)[i * 6 + j]? = (exCs l[i].1 l[i].2)[j]?
  | [], i, j, h, _ => absurd h (Nat.not_lt_zero _)
  | x :: l, 0, j, _, hj => by
    rw [List.flatMap_cons, List.getElem?_append_left (by rw [exCs_len]; omega)]
    simp
  | x :: l, i + 1, j, h, hj => by
    have e : (i + 1) * 6 + j = 6 + (i * 6 + j) := by omega
    rw [List.flatMap_cons, List.getElem?_append_right (by rw [exCs_len, e]; omega), exCs_len, e]
    have := flat_at6 l i j (by simpa using h) hj
    rw [show 6 + (i * 6 + j) - 6 = i * 6 + j from by omega]
    simpa using this
/-- The slice u holds the arguments of e, and theirs, to the last. -/
inductive ExR (w : World) (S : Nat → Prop) : Value → Ex → Prop where
  | mk (k : Int) (s : List UInt8) (v : Val) (l : List Ex) (us : List Value) (A : Option Addr) (c : Nat) (hu : us.length = l.length) (hc : l.length ≤ c) (hm : c ≤ maxLen)
      (hs : Sl w S 6 A l.length ((us.zip l).flatMap fun p => exCs p.1 p.2)) (he : ∀ (i : Nat) (u : Value) (e : Ex), us[i]? = some u → l[i]? = some e → ExR w S u e) : ExR w S (.slice A l.length c) (.mk k s v l)
/-- A slice of expressions. -/
def ExL (w : World) (S : Nat → Prop) (u : Value) (l : List Ex) : Prop :=
  ∃ (us : List Value) (A : Option Addr) (c : Nat), u = .slice A l.length c ∧ us.length = l.length ∧ l.length ≤ c ∧ c ≤ maxLen ∧ Sl w S 6 A l.length ((us.zip l).flatMap fun p => exCs p.1 p.2) ∧ ∀ (i : Nat) (u : Value) (e : Ex), us[i]? = some u → l[i]? = some e → ExR w S u e
section
variable {w w' : World} {S S' : Nat → Prop} {u : Value} {e : Ex} {l : List Ex}
theorem ExR.toL (h : ExR w S u e) : ExL w S u e.args := by
  cases h with
  | mk k s v l us A c hu hc hm hs he => exact ⟨us, A, c, rfl, hu, hc, hm, hs, he⟩
theorem ExL.toR (k : Int) (s : List UInt8) (v : Val) (h : ExL w S u l) : ExR w S u (.mk k s v l) := by
  obtain ⟨us, A, c, rfl, hu, hc, hm, hs, he⟩ := h
  exact .mk k s v l us A c hu hc hm hs he
theorem ExR.iff (u : Value) (e : Ex) : ExR w S u e ↔ ExL w S u e.args := by
  obtain ⟨k, s, v, l⟩ := e
  exact ⟨ExR.toL, ExL.toR k s v⟩
theorem ExR.keep (h : ExR w S u e) (hk : Same S w w') : ExR w' S u e := by
  induction h with
  | mk k s v l us A c hu hc hm hs he ih => exact .mk k s v l us A c hu hc hm (hs.keep hk) ih
theorem ExR.mono (h : ExR w S u e) (hS : ∀ k, k < w.heap.size → S k → S' k) : ExR w S' u e := by
  induction h with
  | mk k s v l us A c hu hc hm hs he ih => exact .mk k s v l us A c hu hc hm (hs.mono hS (by omega)) ih
theorem ExR.keepAll (h : ExR w S u e) (hk : Same (fun _ => True) w w') : ExR w' S u e := h.keep (hk.mono fun _ _ _ => trivial)
theorem ExL.keep (h : ExL w S u l) (hk : Same S w w') : ExL w' S u l := ((h.toR 0 [] .zero).keep hk).toL
theorem ExL.keepAll (h : ExL w S u l) (hk : Same (fun _ => True) w w') : ExL w' S u l := h.keep (hk.mono fun _ _ _ => trivial)
theorem ExL.mono (h : ExL w S u l) (hS : ∀ k, k < w.heap.size → S k → S' k) : ExL w S' u l := ((h.toR 0 [] .zero).mono hS).toL
theorem ExL.form (h : ExL w S u l) : ∃ A c, u = .slice A l.length c ∧ l.length ≤ c ∧ c ≤ maxLen := by
  obtain ⟨us, A, c, h1, _, h2, h3, _⟩ := h
  exact ⟨A, c, h1, h2, h3⟩
theorem ExL.cells {A : Option Addr} {n c : Nat} (h : ExL w S (.slice A n c) l) {i : Nat} (hi : i < l.length) : ∃ ad u, A = some ad ∧ S ad.block ∧ ExL w S u l[i].args ∧
    w.cell? (ad.add (i * 6)) = some (.int .i64 l[i].kind) ∧ w.cell? ⟨(ad.add (i * 6)).block, (ad.add (i * 6)).off + 1, none⟩ = some (.string (str l[i].s)) ∧ w.cell? ⟨(ad.add (i * 6)).block, (ad.add (i * 6)).off + 2, none⟩ = some (.int .i64 l[i].v.kind) ∧ w.cell? ⟨(ad.add (i * 6)).block, (ad.add (i * 6)).off + 3, none⟩ = some (.int .i64 l[i].v.n) ∧ w.cell? ⟨(ad.add (i * 6)).block, (ad.add (i * 6)).off + 4, none⟩ = some (.string (str l[i].v.s)) ∧ w.cell? ⟨(ad.add (i * 6)).block, (ad.add (i * 6)).off + 5, none⟩ = some u := by
  obtain ⟨us, A', c', h1, hu, hc, hm, hs, he⟩ := h
  injection h1 with h1 h2 h3
  subst h1
  obtain ⟨ad, rfl, hS, hcell⟩ := hs.2 (by omega)
  have hz : i < (us.zip l).length := by simp [hu, hi]
  have key : ∀ j, j < 6 → w.cell? ((ad.add (i * 6)).add j) = (exCs (us[i]'(by omega)) l[i])[j]? := by
    intro j hj
    have e0 := flat_at6 (us.zip l) i j hz hj
    rw [add_of_add]
    have e1 : (us.zip l)[i] = (us[i]'(by omega), l[i]) := by simp
    rw [e1] at e0
    have hj' : j < (exCs (us[i]'(by omega)) l[i]).length := hj
    rw [List.getElem?_eq_getElem hj'] at e0 ⊢
    exact hcell _ _ e0
  have add0 : ∀ a : Addr, a.add 0 = a := fun a => by simp [Addr.add]
  have addp : ∀ (a : Addr) (j : Nat), 0 < j → a.add j = ⟨a.block, a.off + j, none⟩ := fun a j h => by unfold Addr.add; rw [if_neg (by omega)]
  have k1 := key 1 (by omega)
  have k2 := key 2 (by omega)
  have k3 := key 3 (by omega)
  have k4 := key 4 (by omega)
  have k5 := key 5 (by omega)
  rw [addp _ _ (by omega)] at k1 k2 k3 k4 k5
  refine ⟨ad, us[i]'(by omega), rfl, hS, ((ExR.iff _ _).1 (he i _ l[i] (List.getElem?_eq_getElem (by omega)) (List.getElem?_eq_getElem hi))), ?_, k1, k2, k3, k4, k5⟩
  have := key 0 (by omega)
  rwa [add0] at this
end
end Go.Proofs.Ytakbikibahhepaa
