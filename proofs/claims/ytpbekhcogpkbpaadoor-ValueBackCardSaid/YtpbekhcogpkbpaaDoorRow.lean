/-
  Slices of structs that read, and such as the call owns.
-/
import Derived.Test.YtpbekhcogpkbpaaDoorLib3
set_option linter.unusedSimpArgs false
set_option linter.unusedVariables false
namespace Go.Proofs.YtpbekhcogpkbpaaDoor
open Go.RowKit

theorem flat_at {α : Type} (f : α → List Value) (n : Nat) (hf : ∀ x, (f x).length = n) : ∀ (l : List α) (i j : Nat) (h : i < l.length), j < n → (l.flatMap f)[i * n + j]? = (f l[i])[j]?
  | [], i, j, h, _ => absurd h (Nat.not_lt_zero _)
  | x :: l, 0, j, _, hj => by
    rw [List.flatMap_cons, List.getElem?_append_left (by rw [hf]; omega)]
    simp
  | x :: l, i + 1, j, h, hj => by
    have e : (i + 1) * n + j = n + (i * n + j) := by rw [Nat.add_mul]; omega
    rw [List.flatMap_cons, List.getElem?_append_right (by rw [hf, e]; omega), hf, e]
    have := flat_at f n hf l i j (by simpa using h) hj
    rw [show n + (i * n + j) - n = i * n + j from by omega]
    simpa using this
theorem flat_len {α : Type} (f : α → List Value) (n : Nat) (hf : ∀ x, (f x).length = n) : ∀ l : List α, (l.flatMap f).length = l.length * n
  | [] => by simp
  | x :: l => by rw [List.flatMap_cons, List.length_append, hf, flat_len f n hf l, List.length_cons, Nat.add_mul]; omega
/-- A slice of structs, each of n cells, that reads as l. -/
def RowR {α : Type} (f : α → List Value) (n : Nat) (w : World) (S : Nat → Prop) (v : Value) (l : List α) : Prop :=
  ∃ A c, v = .slice A l.length c ∧ l.length ≤ c ∧ c ≤ maxLen ∧ Sl w S n A l.length (l.flatMap f)
section
variable {α : Type} {f : α → List Value} {n : Nat} {w w' : World} {S S' : Nat → Prop} {v : Value} {l : List α}
theorem RowR.keep (h : RowR f n w S v l) (hs : Same S w w') : RowR f n w' S v l := by
  obtain ⟨A, c, h1, h2, h3, h4⟩ := h
  exact ⟨A, c, h1, h2, h3, h4.keep hs⟩
theorem RowR.keepAll (h : RowR f n w S v l) (hs : Same (fun _ => True) w w') : RowR f n w' S v l := h.keep (hs.mono fun _ _ _ => trivial)
theorem RowR.mono (h : RowR f n w S v l) (hn : 0 < n) (hS : ∀ k, k < w.heap.size → S k → S' k) : RowR f n w S' v l := by
  obtain ⟨A, c, h1, h2, h3, h4⟩ := h
  exact ⟨A, c, h1, h2, h3, h4.mono hS hn⟩
theorem RowR.at_ (h : RowR f n w S v l) (hf : ∀ x, (f x).length = n) {i : Nat} (hi : i < l.length) :
    ∃ ad c, v = .slice (some ad) l.length c ∧ l.length ≤ c ∧ c ≤ maxLen ∧ S ad.block ∧ ∀ j, j < n → w.cell? ((ad.add (i * n)).add j) = (f l[i])[j]? := by
  obtain ⟨A, c, h1, h2, h3, h4⟩ := h
  obtain ⟨ad, rfl, hS, hc⟩ := h4.2 (by omega)
  refine ⟨ad, c, h1, h2, h3, hS, fun j hj => ?_⟩
  rw [add_of_add]
  have := flat_at f n hf l i j hi hj
  have hj' : j < (f l[i]).length := by rw [hf]; exact hj
  rw [List.getElem?_eq_getElem hj'] at this ⊢
  exact hc _ _ this
theorem RowR.nil_ (w : World) (S : Nat → Prop) (A : Option Addr) (c : Nat) (hc : c ≤ maxLen) : RowR f n w S (.slice A 0 c) [] := ⟨A, c, rfl, by simp, hc, by simpa using Sl.nil w S n A⟩
end
theorem add_zero (a : Addr) : a.add 0 = a := by simp [Addr.add]
theorem addr_add (a : Addr) (j : Nat) (h : 0 < j) : a.add j = ⟨a.block, a.off + j, none⟩ := by unfold Addr.add; rw [if_neg (by omega)]
theorem own_cap {w : World} {B : Nat} {e : TypeId} {size : Nat} {v : Value} {n : Nat} {xs : List Value} (h : w.ownsRow B e size v n xs) : ∃ A c, v = .slice A n c ∧ n ≤ c ∧ c ≤ maxLen := by
  rcases h.2 with ⟨rfl, rfl⟩ | ⟨g, cap, cur, rfl, _, _, h1, h2, _⟩
  · exact ⟨none, 0, rfl, by omega, by simp [maxLen]⟩
  · exact ⟨_, _, rfl, h1, h2⟩
theorem own_ge {w : World} {B : Nat} {e : TypeId} {size : Nat} {v : Value} {n : Nat} {xs : List Value} (h : w.ownsRow B e size v n xs) {k : Nat} (hk : some k = v.ownBlock) : B ≤ k := (h.lt k hk.symm).1
theorem own_lower {w : World} {B B' : Nat} {e : TypeId} {size : Nat} {v : Value} {n : Nat} {xs : List Value} (h : w.ownsRow B e size v n xs) (hb : B' ≤ B) : w.ownsRow B' e size v n xs :=
  ⟨h.1, h.2.imp id fun ⟨g, c, cu, h1, h2, h3⟩ => ⟨g, c, cu, h1, Nat.le_trans hb h2, h3⟩⟩
/-- A row of structs that the call owns. -/
def OwnR {α : Type} (f : α → List Value) (n : Nat) (e : TypeId) (w : World) (B : Nat) (v : Value) (l : List α) : Prop := w.ownsRow B e n v l.length (l.flatMap f)
section
variable {α : Type} {f : α → List Value} {n : Nat} {e : TypeId} {w w' : World} {B : Nat} {v : Value} {l : List α}
theorem OwnR.nil (w : World) (B : Nat) : OwnR f n e w B (.slice none 0 0) [] := World.ownsRow_nil _ _ _ _
theorem OwnR.keepAll (h : OwnR f n e w B v l) (hs : Same (fun _ => True) w w') : OwnR f n e w' B v l := own_keepAll h hs
theorem OwnR.keep {S : Nat → Prop} (h : OwnR f n e w B v l) (hs : Same S w w') (hS : ∀ k, B ≤ k → k < w.heap.size → S k) : OwnR f n e w' B v l :=
  own_keep h (hs.mono (S' := fun k => S k) fun _ _ h => h) fun k hk => hS k (own_ge h hk.symm) (h.lt k hk).2
theorem OwnR.form (h : OwnR f n e w B v l) : ∃ A c, v = .slice A l.length c ∧ l.length ≤ c ∧ c ≤ maxLen := own_cap h
theorem OwnR.lt_ (h : OwnR f n e w B v l) {k : Nat} (hk : v.ownBlock = some k) : B ≤ k ∧ k < w.heap.size := h.lt k hk
/-- One struct behind a row that the call owns: its cells were laid into a block of their own. -/
theorem wpList_appR1 {P : Program} {t : TypeId} {bytes : Nat} {z : Value} (T : SlT P t e n bytes z) (hf : ∀ x, (f x).length = n) (h1 : ∀ x, ∀ u ∈ f x, u.oneCell' = true) {w : World} {ops : Array Oper} {rest : List Oper} {o : Oper} {a : Act} {Q : Exit → Act → World → Prop} (hgd : o.guard = none) (s x : Operand)
    (ho : o.op = .call { callee := .builtin .append, args := #[s, x], argTypes := #[t, t] }) {B : Nat} {v : Value} {l : List α} {c : α}
    (hs : a.eval s = v) {g : Nat} (hx : a.eval x = .slice (some ⟨g, 0, none⟩) 1 1) (hg : g = w.heap.size) (hown : OwnR f n e w B v l) (hB : B ≤ w.heap.size) (hlen : l.length + 1 ≤ maxLen) (hbytes : (l.length + 1) * bytes ≤ 140737488355328)
    (hK : ∀ v' w', OwnR f n e w' B v' (l ++ [c]) → Same (fun k => k < B) w w' → wpList P ops Q rest (a.put o.dst v') w') : wpList P ops Q (o :: rest) a (w.alloc (.cells (f c).toArray e)) := by
  subst hg
  have hs1 : Same (fun _ => True) w (w.alloc (.cells (f c).toArray e)) := (Same.refl _ _).alloc _
  have hrow := Row.new w e (f c)
  have hsl := hrow.sl (size := n) (off := 0) (n := 1) (by rw [hf]; omega)
  rw [List.drop_zero, List.take_of_length_le (by rw [hf]; omega)] at hsl
  refine wpList_app T _ hgd s x ho B v l.length (l.flatMap f) hs (hown.keepAll hs1) _ _ 1 1 (f c) hx hsl (h1 c) hlen hbytes (by simp; omega) ?_
  intro v' w' h2 h3 h4
  refine hK v' w' ?_ ((hs1.mono fun _ _ _ => trivial).trans (h3.mono fun k _ hk e' => by have := (hown.keepAll hs1).lt_ e'.symm; omega))
  unfold OwnR
  rw [List.length_append, List.flatMap_append]
  simpa using h2
end
/-- A slice of structs that reads as l, in an unfrozen block of the element's type. -/
def RowW {α : Type} (f : α → List Value) (n : Nat) (e : TypeId) (w : World) (S : Nat → Prop) (v : Value) (l : List α) : Prop :=
  ∃ A c, v = .slice A l.length c ∧ l.length ≤ c ∧ c ≤ maxLen ∧ (0 < l.length → ∃ g o cur, A = some ⟨g, o, none⟩ ∧ S g ∧ w.heap[g]? = some (.cells cur e (0, 0)) ∧ ∀ j u, (l.flatMap f)[j]? = some u → cur[o + j]? = some u)
section
variable {α : Type} {f : α → List Value} {n : Nat} {e : TypeId} {w w' : World} {S S' : Nat → Prop} {v : Value} {l : List α}
theorem RowW.keep (h : RowW f n e w S v l) (hs : Same S w w') : RowW f n e w' S v l := by
  obtain ⟨A, c, h1, h2, h3, h4⟩ := h
  refine ⟨A, c, h1, h2, h3, fun h0 => ?_⟩
  obtain ⟨g, o, cur, e1, e2, e3, e4⟩ := h4 h0
  exact ⟨g, o, cur, e1, e2, by rw [hs.block g (Array.getElem?_eq_some_iff.1 e3).1 e2]; exact e3, e4⟩
theorem RowW.mono (h : RowW f n e w S v l) (hS : ∀ k, k < w.heap.size → S k → S' k) : RowW f n e w S' v l := by
  obtain ⟨A, c, h1, h2, h3, h4⟩ := h
  refine ⟨A, c, h1, h2, h3, fun h0 => ?_⟩
  obtain ⟨g, o, cur, e1, e2, e3, e4⟩ := h4 h0
  exact ⟨g, o, cur, e1, hS g (Array.getElem?_eq_some_iff.1 e3).1 e2, e3, e4⟩
theorem RowW.keepAll (h : RowW f n e w S v l) (hs : Same (fun _ => True) w w') : RowW f n e w' S v l := h.keep (hs.mono fun _ _ _ => trivial)
theorem add_none (g o j : Nat) : (⟨g, o, none⟩ : Addr).add j = ⟨g, o + j, none⟩ := by
  by_cases h : j = 0
  · subst h; rw [add_zero]; rfl
  · rw [addr_add _ j (by omega)]
theorem RowW.row (h : RowW f n e w S v l) (hf : ∀ x, (f x).length = n) : RowR f n w S v l := by
  obtain ⟨A, c, h1, h2, h3, h4⟩ := h
  refine ⟨A, c, h1, h2, h3, flat_len f n hf l, fun h0 => ?_⟩
  obtain ⟨g, o, cur, e1, e2, e3, e4⟩ := h4 h0
  refine ⟨_, e1, e2, fun j u hu => ?_⟩
  rw [add_none, cell_of_row w g (o + j) _ e (0, 0) e3]
  exact e4 j u hu
theorem OwnR.wr {B : Nat} (h : OwnR f n e w B v l) : RowW f n e w (fun k => B ≤ k) v l := by
  rcases h.2 with ⟨rfl, h0⟩ | ⟨g, cap, cur, rfl, hB, hg, h1, h2, h3, h4⟩
  · exact ⟨none, 0, by rw [h0], by omega, by simp [maxLen], fun hp => by omega⟩
  · refine ⟨_, _, rfl, h1, h2, fun _ => ⟨g, 0, cur, rfl, hB, hg, fun j u hu => ?_⟩⟩
    rw [← h4, List.getElem?_take] at hu
    split at hu
    · rw [Nat.zero_add, ← hu]; simp
    · cases hu
theorem OwnR.empty (f : α → List Value) (n : Nat) (e : TypeId) (w : World) : OwnR f n e (w.alloc (.cells #[] e)) w.heap.size (.slice (some ⟨w.heap.size, 0, none⟩) 0 0) [] :=
  ⟨by simp, .inr ⟨w.heap.size, 0, #[], rfl, Nat.le_refl _, Row.new w e [], by simp, by simp [maxLen], by simp, by simp⟩⟩
theorem OwnR.lower {B B' : Nat} (h : OwnR f n e w B v l) (hb : B' ≤ B) : OwnR f n e w B' v l := own_lower h hb
/-- A row behind a row that the call owns. -/
theorem wpList_appR {P : Program} {t : TypeId} {bytes : Nat} {z : Value} (T : SlT P t e n bytes z) (hf : ∀ x, (f x).length = n) (h1 : ∀ x, ∀ u ∈ f x, u.oneCell' = true) {ops : Array Oper} {rest : List Oper} {o : Oper} {a : Act} {Q : Exit → Act → World → Prop} (hgd : o.guard = none) (s x : Operand)
    (ho : o.op = .call { callee := .builtin .append, args := #[s, x], argTypes := #[t, t] }) {B : Nat} {l2 : List α} {x' : Value}
    (hs : a.eval s = v) (hx : a.eval x = x') (hr : RowR f n w S x' l2) (hown : OwnR f n e w B v l) (hB : B ≤ w.heap.size) (hlen : l.length + l2.length ≤ maxLen) (hbytes : (l.length + l2.length) * bytes ≤ 140737488355328)
    (hK : ∀ v' w', OwnR f n e w' B v' (l ++ l2) → Same (fun k => some k ≠ v.ownBlock) w w' → wpList P ops Q rest (a.put o.dst v') w') : wpList P ops Q (o :: rest) a w := by
  obtain ⟨A, c, rfl, h2, h3, h4⟩ := hr
  refine wpList_app T _ hgd s x ho B v l.length (l.flatMap f) hs hown S A l2.length c (l2.flatMap f) hx h4 (fun u hu => ?_) hlen hbytes hB ?_
  · obtain ⟨x, _, hx⟩ := List.mem_flatMap.1 hu
    exact h1 x u hx
  intro v' w' k1 k2 k3
  refine hK v' w' ?_ k2
  unfold OwnR
  rw [List.length_append, List.flatMap_append]
  exact k1
end
end Go.Proofs.YtpbekhcogpkbpaaDoor
