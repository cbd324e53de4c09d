/-
  Readings of arguments, whatever their type: a codec tells which cells read as which plain data; slices and structs of codecs are codecs.
-/
import Derived.Test.YtpbekhcogpkbpaaDoorLib
set_option linter.unusedSimpArgs false
set_option linter.unusedVariables false
namespace Go.Proofs.YtpbekhcogpkbpaaDoor
open Go.RowKit Go.ChangeShapes Go.WideShapes Go.ChangeAt

/-- Which cells of type t read as which data; kept while the blocks of S stay. -/
structure Codec (P : Program) (t : TypeId) (α : Type) where
  ok : World → (Nat → Prop) → List Value → α → Prop
  keep : ∀ {S : Nat → Prop} {w w' : World} {vs : List Value} {x : α}, Same S w w' → ok w S vs x → ok w' S vs x
  size : ∀ {S : Nat → Prop} {w : World} {vs : List Value} {x : α}, ok w S vs x → vs.length = P.cellsOf t
  opens : ∀ {H : Type} {enc : TypeId × Value → H} {W : World} {fuel : Nat} {cs : List Value} {x : DataW H × List MemPlace},
    DataW.trod enc P W 0 (fun _ => true) true fuel t cs = some x → ∃ a, ok W (· < W.heap.size) cs a

section
variable {P : Program} {t e : TypeId} {α β : Type}
def cInt (k : IntKind) (ht : P.underlying t = some (.int k)) (hc : P.cellsOf t = 1) : Codec P t Int where
  ok _ _ vs n := vs = [.int k n] ∧ (Lit.int k n).wf = true
  keep _ h := h
  size h := by rw [h.1, hc]; rfl
  opens h := by
    obtain ⟨n, h1, _, h2⟩ := DataW.trod_int ht h
    exact ⟨n, h1, h2⟩
def cBool (ht : P.underlying t = some .bool) (hc : P.cellsOf t = 1) : Codec P t Bool where
  ok _ _ vs b := vs = [.bool b]
  keep _ h := h
  size h := by rw [h, hc]; rfl
  opens h := by
    obtain ⟨n, h1, _⟩ := DataW.trod_bool ht h
    exact ⟨n, h1⟩
def cStr (ht : P.underlying t = some .string) (hc : P.cellsOf t = 1) : Codec P t (List UInt8) where
  ok _ _ vs l := vs = [.string (str l)] ∧ l.length ≤ maxLen
  keep _ h := h
  size h := by rw [h.1, hc]; rfl
  opens h := by
    obtain ⟨s, h1, _, h2⟩ := DataW.trod_string ht h
    exact ⟨s.data.toList, by rw [h1, ← str_get], by rw [Array.length_toList]; exact h2⟩
def cBytes (ht : P.underlying t = some (.slice e)) (he : P.underlying e = some (.int .u8)) (hc : P.cellsOf e = 1) (hc' : P.cellsOf t = 1) : Codec P t (List UInt8) where
  ok w S vs l := ∃ v, vs = [v] ∧ By w S v l
  keep hs h := by
    obtain ⟨v, h1, h2⟩ := h
    exact ⟨v, h1, h2.keep hs⟩
  size h := by
    obtain ⟨v, rfl, _⟩ := h
    rw [hc']; rfl
  opens h := by
    obtain ⟨v, l, h1, h2⟩ := By.ofTrod ht he hc h
    exact ⟨l, v, h1, h2⟩
/-- A slice of whatever reads: the element i lies at i rows behind the head. -/
def SlOf (C : Codec P e α) (w : World) (S : Nat → Prop) (v : Value) (xs : List α) : Prop :=
  ∃ A c, v = .slice A xs.length c ∧ xs.length ≤ c ∧ c ≤ maxLen ∧
    ∀ i x, xs[i]? = some x → ∃ ad us, A = some ad ∧ S ad.block ∧ (∀ j u, us[j]? = some u → w.cell? (ad.add (i * P.cellsOf e + j)) = some u) ∧ C.ok w S us x
theorem SlOf.keep {C : Codec P e α} {w w' : World} {S : Nat → Prop} {v : Value} {xs : List α} (h : SlOf C w S v xs) (hs : Same S w w') : SlOf C w' S v xs := by
  obtain ⟨A, c, h1, h2, h3, h4⟩ := h
  refine ⟨A, c, h1, h2, h3, fun i x hx => ?_⟩
  obtain ⟨ad, us, a1, a2, a3, a4⟩ := h4 i x hx
  exact ⟨ad, us, a1, a2, fun j u hu => hs.cell (by rw [block_of_add]; exact a2) (a3 j u hu), C.keep hs a4⟩
theorem SlOf.opens {C : Codec P e α} (ht : P.underlying t = some (.slice e)) (hc : 0 < P.cellsOf e) {H : Type} {enc : TypeId × Value → H} {W : World} {fuel : Nat} {cs : List Value} {x : DataW H × List MemPlace}
    (h : DataW.trod enc P W 0 (fun _ => true) true fuel t cs = some x) : ∃ v xs, cs = [v] ∧ SlOf C W (· < W.heap.size) v xs := by
  rcases Go.Deep.open_slice ht h with ⟨rfl, _⟩ | ⟨a, len, cap, m, n, D, Pl, rfl, _, hl, hm, hmm, _, hel⟩
  · exact ⟨_, [], rfl, none, 0, rfl, Nat.le_refl _, by simp [maxLen], fun i x hx => by simp at hx⟩
  · simp only [if_true] at hmm
    subst hmm
    have each : ∀ i, i < len → ∃ p : List Value × α, (∀ j u, p.1[j]? = some u → W.cell? (a.add (i * P.cellsOf e + j)) = some u) ∧ C.ok W (· < W.heap.size) p.1 p.2 := by
      intro i hi
      obtain ⟨cs', hcs, htr⟩ := hel i (by omega)
      obtain ⟨y, hy⟩ := C.opens htr
      obtain ⟨_, hlen, hat⟩ := World.cells?_some hcs
      refine ⟨(cs', y), fun j u hu => ?_, hy⟩
      have hj : j < cs'.length := by
        rcases Nat.lt_or_ge j cs'.length with h | h
        · exact h
        · rw [List.getElem?_eq_none h] at hu; cases hu
      have := hat j (by omega)
      rw [← add_of_add, this]
      exact hu
    rcases Nat.eq_zero_or_pos len with h0 | h0
    · subst h0
      exact ⟨_, [], rfl, some a, m, rfl, by simp, hm, fun i x hx => by simp at hx⟩
    obtain ⟨p0, _⟩ := each 0 h0
    haveI : Inhabited (List Value × α) := ⟨p0⟩
    obtain ⟨F, hF⟩ := Go.Deep.choose_lt each
    refine ⟨_, (List.range len).map fun i => (F i).2, rfl, some a, m, by simp, by simpa using hl, hm, fun i x hx => ?_⟩
    by_cases hi : i < len
    · simp [hi] at hx
      subst hx
      obtain ⟨h1, h2⟩ := hF i hi
      refine ⟨a, (F i).1, rfl, ?_, h1, h2⟩
      have hz := C.size h2
      have := World.block_lt_of_cell? W _ (h1 0 _ (List.getElem?_eq_getElem (by omega)))
      rw [block_of_add] at this
      exact this
    · simp [hi] at hx
def cSlice (C : Codec P e α) (ht : P.underlying t = some (.slice e)) (hc : 0 < P.cellsOf e) (hc' : P.cellsOf t = 1) : Codec P t (List α) where
  ok w S vs xs := ∃ v, vs = [v] ∧ SlOf C w S v xs
  keep hs h := by
    obtain ⟨v, h1, h2⟩ := h
    exact ⟨v, h1, h2.keep hs⟩
  size h := by
    obtain ⟨v, rfl, _⟩ := h
    rw [hc']; rfl
  opens h := by
    obtain ⟨v, xs, h1, h2⟩ := SlOf.opens (C := C) ht hc h
    exact ⟨xs, v, h1, h2⟩
/-- The fields of a struct. -/
structure FCod (P : Program) (fs : List Field) (α : Type) where
  ok : World → (Nat → Prop) → List Value → α → Prop
  keep : ∀ {S : Nat → Prop} {w w' : World} {vs : List Value} {x : α}, Same S w w' → ok w S vs x → ok w' S vs x
  opens : ∀ {H : Type} {enc : TypeId × Value → H} {W : World} {n : Nat} {cs : List Value},
    (∀ f, f ∈ fs → ∃ y, DataW.trod enc P W 0 (fun _ => true) true n f.type ((cs.drop f.offset).take (P.cellsOf f.type)) = some y) → ∃ a, ok W (· < W.heap.size) cs a
def fnil : FCod P [] Unit where
  ok _ _ _ _ := True
  keep _ h := h
  opens _ := ⟨(), trivial⟩
def fcons (off n : Nat) {f : Field} {fs : List Field} (C : Codec P f.type α) (R : FCod P fs β) (ho : f.offset = off := by rfl) (hn : P.cellsOf f.type = n := by kernel_rfl) : FCod P (f :: fs) (α × β) where
  ok w S vs x := C.ok w S ((vs.drop off).take n) x.1 ∧ R.ok w S vs x.2
  keep hs h := ⟨C.keep hs h.1, R.keep hs h.2⟩
  opens h := by
    obtain ⟨y, hy⟩ := h f (by simp)
    rw [ho, hn] at hy
    obtain ⟨a, ha⟩ := C.opens hy
    obtain ⟨b, hb⟩ := R.opens (fun g hg => h g (by simp [hg]))
    exact ⟨(a, b), ha, hb⟩
def cStruct {fs : Array Field} (R : FCod P fs.toList β) (F : β → α) (ht : P.underlying t = some (.struct fs)) : Codec P t α where
  ok w S vs x := vs.length = P.cellsOf t ∧ ∃ b, x = F b ∧ R.ok w S vs b
  keep hs h := by
    obtain ⟨h0, b, h1, h2⟩ := h
    exact ⟨h0, b, h1, R.keep hs h2⟩
  size h := h.1
  opens h := by
    obtain ⟨xs, n, _, _, h1, h2, h3⟩ := DataW.trod_struct ht h
    obtain ⟨b, hb⟩ := R.opens (enc := _) (n := n) (fun f hf => by
      obtain ⟨i, hi, rfl⟩ := List.mem_iff_getElem.1 hf
      have hi' : i < fs.size := by simpa using hi
      have := h3 i fs[i] (by simp [hi'])
      refine ⟨xs[i]'(by omega), ?_⟩
      rw [List.getElem?_eq_getElem (by omega)] at this
      exact this)
    exact ⟨F b, h1, b, rfl, hb⟩
/-- An argument, opened. -/
theorem Codec.arg (C : Codec P t α) {H : Type} {enc : TypeId × Value → H} {W : World} {v : Value} {d : DataW H} {ps : List MemPlace} (h : DataW.Trod enc P W 0 (fun _ => true) true t v d ps) :
    ∃ a, C.ok W (· < W.heap.size) v.cells.toList a := by
  obtain ⟨fuel, hf⟩ := h
  exact C.opens hf
end
end Go.Proofs.YtpbekhcogpkbpaaDoor
