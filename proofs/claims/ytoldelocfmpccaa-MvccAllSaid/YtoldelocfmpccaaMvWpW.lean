/-
  Cells that are wiped: what stays known of them.
-/
import Derived.Test.YtoldelocfmpccaaQ15
set_option linter.unusedSimpArgs false
set_option linter.unusedVariables false
namespace Go.Proofs.Ytoldelocfmpccaa
open Go.RowKit

/-- Versions' cells that may be written. -/
def VS (w : World) (S : Nat → Prop) (u : Value) : Prop := ∃ A n c, u = .slice A n c ∧ n ≤ c ∧ c ≤ maxLen ∧ (0 < n → ∃ g o cur, A = some ⟨g, o, none⟩ ∧ S g ∧ w.heap[g]? = some (.cells cur 69 (0, 0)) ∧ o + n * 4 ≤ cur.size)
/-- A row of cells, of which those from k on still have their versions. -/
def WipeC (w : World) (S : Nat → Prop) (g : Nat) (cur : List Value) (n k : Nat) : Prop := S g ∧ Row w g 64 cur ∧ n * 12 ≤ cur.length ∧ ∀ i, k ≤ i → i < n → ∃ u, cur[i * 12 + 1]? = some u ∧ VS w S u
theorem cells_setCell {w : World} {p : Addr} {v : Value} {g : Nat} {cur : Array Value} {t : TypeId} (h : w.heap[g]? = some (.cells cur t (0, 0))) : ∃ cur', (w.setCell p v).heap[g]? = some (.cells cur' t (0, 0)) ∧ cur'.size = cur.size := by
  by_cases e : p.block = g
  · subst e
    refine ⟨if p.spot.isSome then cur else cur.setIfInBounds p.off v, ?_, by split <;> simp⟩
    simp [World.setCell, Array.getElem?_modify, h]
  · exact ⟨cur, by rw [Below.heap_setCell _ _ _ _ (fun h => e h.symm)]; exact h, rfl⟩
theorem VS.setCell {w : World} {S : Nat → Prop} {u v : Value} {p : Addr} (h : VS w S u) : VS (w.setCell p v) S u := by
  obtain ⟨A, n, c, h1, h2, h3, h4⟩ := h
  refine ⟨A, n, c, h1, h2, h3, fun h0 => ?_⟩
  obtain ⟨g, o, cur, e1, e2, e3, e4⟩ := h4 h0
  obtain ⟨cur', f1, f2⟩ := cells_setCell (p := p) (v := v) e3
  exact ⟨g, o, cur', e1, e2, f1, by omega⟩
theorem VS.keep {w w' : World} {S S' : Nat → Prop} {u : Value} (h : VS w S u) (hs : Same S' w w') (hS : ∀ k, S k → S' k) : VS w' S u := by
  obtain ⟨A, n, c, h1, h2, h3, h4⟩ := h
  refine ⟨A, n, c, h1, h2, h3, fun h0 => ?_⟩
  obtain ⟨g, o, cur, e1, e2, e3, e4⟩ := h4 h0
  exact ⟨g, o, cur, e1, e2, by rw [hs.block g (Array.getElem?_eq_some_iff.1 e3).1 (hS g e2)]; exact e3, e4⟩
theorem WipeC.keep {w w' : World} {S S' : Nat → Prop} {g n k : Nat} {cur : List Value} (h : WipeC w S g cur n k) (hs : Same S' w w') (hS : ∀ k, S k → S' k) : WipeC w' S g cur n k := by
  obtain ⟨h1, h2, h3, h4⟩ := h
  refine ⟨h1, h2.keep hs (hS g h1), h3, fun i a b => ?_⟩
  obtain ⟨u, e1, e2⟩ := h4 i a b
  exact ⟨u, e1, e2.keep hs hS⟩
/-- A cell of a version is written. -/
theorem WipeC.ver {w : World} {S : Nat → Prop} {g n k : Nat} {cur : List Value} {p : Addr} {v : Value} (h : WipeC w S g cur n k) (hp : g ≠ p.block) : WipeC (w.setCell p v) S g cur n k := by
  obtain ⟨h1, h2, h3, h4⟩ := h
  refine ⟨h1, ?_, h3, fun i a b => ?_⟩
  · unfold Row at h2 ⊢
    rw [Below.heap_setCell _ _ _ _ hp]
    exact h2
  · obtain ⟨u, e1, e2⟩ := h4 i a b
    exact ⟨u, e1, e2.setCell⟩
/-- A cell's own part is written. -/
theorem WipeC.set_ {w : World} {S : Nat → Prop} {g n k : Nat} {cur : List Value} {j : Nat} {v : Value} (h : WipeC w S g cur n k) (hj : j < k * 12) : WipeC (w.setCell ⟨g, j, none⟩ v) S g (cur.set j v) n k := by
  obtain ⟨h1, h2, h3, h4⟩ := h
  refine ⟨h1, h2.set_ _ _, by simpa using h3, fun i a b => ?_⟩
  obtain ⟨u, e1, e2⟩ := h4 i a b
  exact ⟨u, by rw [List.getElem?_set_ne (by omega)]; exact e1, e2.setCell⟩
theorem WipeC.later {w : World} {S : Nat → Prop} {g n k : Nat} {cur : List Value} (h : WipeC w S g cur n k) : WipeC w S g cur n (k + 1) := ⟨h.1, h.2.1, h.2.2.1, fun i a b => h.2.2.2 i (by omega) b⟩
theorem VS.cells {w : World} {S : Nat → Prop} {A : Option Addr} {n c i : Nat} (h : VS w S (.slice A n c)) (hi : i < n) : ∃ g o, A = some ⟨g, o, none⟩ ∧ S g ∧ g < w.heap.size ∧ (∃ cur, w.heap[g]? = some (.cells cur 69 (0, 0))) ∧ (∃ u0 u1 u2 u3, w.cell? ⟨g, o + i * 4, none⟩ = some u0 ∧ w.cell? ⟨g, o + i * 4 + 1, none⟩ = some u1 ∧ w.cell? ⟨g, o + i * 4 + 2, none⟩ = some u2 ∧ w.cell? ⟨g, o + i * 4 + 3, none⟩ = some u3) ∧
    w.frozen? ⟨g, o + i * 4, none⟩ = false ∧ w.frozen? ⟨g, o + i * 4 + 1, none⟩ = false ∧ w.frozen? ⟨g, o + i * 4 + 2, none⟩ = false ∧ w.frozen? ⟨g, o + i * 4 + 3, none⟩ = false := by
  obtain ⟨A', n', c', h1, h2, h3, h4⟩ := h
  injection h1 with e1 e2 e3
  subst e1 e2 e3
  obtain ⟨g, o, cur, e1, e2, e3, e4⟩ := h4 (by omega)
  have hc : ∀ j, j < cur.size → w.cell? ⟨g, j, none⟩ = some (cur.getD j undef) := fun j hj => by
    rw [cell_of_row w g j _ _ (0, 0) e3, Array.getElem?_eq_getElem hj]
    simp [Array.getD, hj]
  have hf : ∀ j, w.frozen? ⟨g, j, none⟩ = false := fun j => by simp [World.frozen?, e3]
  exact ⟨g, o, e1, e2, (Array.getElem?_eq_some_iff.1 e3).1, ⟨cur, e3⟩, ⟨_, _, _, _, hc _ (by omega), hc _ (by omega), hc _ (by omega), hc _ (by omega)⟩, hf _, hf _, hf _, hf _⟩
theorem WipeC.cells {w : World} {S : Nat → Prop} {g n k : Nat} {cur : List Value} (h : WipeC w S g cur n k) (hk : k < n) : ∃ u, w.cell? ⟨g, k * 12 + 1, none⟩ = some u ∧ VS w S u := by
  obtain ⟨h1, h2, h3, h4⟩ := h
  obtain ⟨u, e1, e2⟩ := h4 k (Nat.le_refl _) hk
  exact ⟨u, by rw [h2.cell]; exact e1, e2⟩
theorem WipeC.all12 {w : World} {S : Nat → Prop} {g n k : Nat} {cur : List Value} (h : WipeC w S g cur n k) {i : Nat} (hi : i < n) : (∀ j, j < 12 → ∃ u, w.cell? ⟨g, i * 12 + j, none⟩ = some u) ∧ ∀ j, w.frozen? ⟨g, j, none⟩ = false := by
  obtain ⟨h1, h2, h3, h4⟩ := h
  refine ⟨fun j hj => ?_, h2.frozen⟩
  rw [h2.cell, List.getElem?_eq_getElem (by omega)]
  exact ⟨_, rfl⟩
theorem WipeC.ne {w : World} {S : Nat → Prop} {g n k : Nat} {cur : List Value} (h : WipeC w S g cur n k) {g' : Nat} {c' : Array Value} (h' : w.heap[g']? = some (.cells c' 69 (0, 0))) : g ≠ g' := by
  rintro rfl
  have h2 := h.2.1
  unfold Row at h2
  rw [h2] at h'
  injection h' with h'
  injection h' with _ e _
  exact absurd e (by decide)
/-- Cells that a call owns are such. -/
theorem OwnC.wipe {w : World} {B n cp : Nat} {A : Option Addr} {cs : List Cel} (h : OwnC w B (.slice A n cp) cs) (h0 : 0 < n) : ∃ g cur, A = some ⟨g, 0, none⟩ ∧ WipeC w (fun b => B ≤ b ∧ b < w.heap.size) g cur n 0 := by
  obtain ⟨us, u1, u2, u3⟩ := h
  have hz : (us.zip cs).length = cs.length := by simp [u1]
  rcases ownsRow_row u2 with ⟨e, _, _⟩ | ⟨g, cap, cur, e, hB, hr, hn, hm, hl, ht⟩
  · injection e with _ e _; omega
  · injection e with e1 e2 e3
    refine ⟨g, cur, e1, ⟨hB, hr.lt⟩, hr, by rw [hl]; exact Nat.mul_le_mul_right _ (by omega), fun i _ hi => ?_⟩
    have hi2 : i < (us.zip cs).length := by omega
    have e := flat_at celCs 12 celCs_len (us.zip cs) i 1 hi2 (by omega)
    rw [← ht, List.getElem?_take, if_pos (by omega)] at e
    have e4 : (us.zip cs)[i] = (us[i]'(by omega), cs[i]'(by omega)) := by simp
    rw [e4] at e
    refine ⟨us[i]'(by omega), e, ?_⟩
    obtain ⟨A', c', f1, f2, f3, f4⟩ := u3 i (by omega) (by omega)
    refine ⟨A', _, c', f1, f2, f3, fun hp => ?_⟩
    obtain ⟨g', o, cur', k1, k2, k3, k4⟩ := f4 hp
    refine ⟨g', o, cur', k1, ⟨k2, (Array.getElem?_eq_some_iff.1 k3).1⟩, k3, ?_⟩
    have hfl := flat_len verCs 4 verCs_len (cs[i]'(by omega)).vers
    have hlast : (((cs[i]'(by omega)).vers).flatMap verCs)[(cs[i]'(by omega)).vers.length * 4 - 1]? = some ((((cs[i]'(by omega)).vers).flatMap verCs)[(cs[i]'(by omega)).vers.length * 4 - 1]'(by omega)) := List.getElem?_eq_getElem _
    have := (Array.getElem?_eq_some_iff.1 (k4 _ _ hlast)).1
    omega
/-- A cell is wiped. -/
theorem WipeC.zero12 {w : World} {S : Nat → Prop} {g n k : Nat} {cur : List Value} (h : WipeC w S g cur n k) (u0 u1 u2 u3 u4 u5 u6 u7 u8 u9 u10 u11 : Value) : ∃ cur', WipeC ((((((((((((w.setCell ⟨g, k * 12, none⟩ u0).setCell ⟨g, k * 12 + 1, none⟩ u1).setCell ⟨g, k * 12 + 2, none⟩ u2).setCell ⟨g, k * 12 + 3, none⟩ u3).setCell ⟨g, k * 12 + 4, none⟩ u4).setCell ⟨g, k * 12 + 5, none⟩ u5).setCell ⟨g, k * 12 + 6, none⟩ u6).setCell ⟨g, k * 12 + 7, none⟩ u7).setCell ⟨g, k * 12 + 8, none⟩ u8).setCell ⟨g, k * 12 + 9, none⟩ u9).setCell ⟨g, k * 12 + 10, none⟩ u10).setCell ⟨g, k * 12 + 11, none⟩ u11) S g cur' n (k + 1) :=
  ⟨_, ((((((((((((h.later.set_ (by omega)).set_ (by omega)).set_ (by omega)).set_ (by omega)).set_ (by omega)).set_ (by omega)).set_ (by omega)).set_ (by omega)).set_ (by omega)).set_ (by omega)).set_ (by omega)).set_ (by omega))⟩
theorem Same.zero12 {S : Nat → Prop} {w w' : World} {g k : Nat} (h : Same S w w') (hg : ¬ S g) (u0 u1 u2 u3 u4 u5 u6 u7 u8 u9 u10 u11 : Value) : Same S w ((((((((((((w'.setCell ⟨g, k * 12, none⟩ u0).setCell ⟨g, k * 12 + 1, none⟩ u1).setCell ⟨g, k * 12 + 2, none⟩ u2).setCell ⟨g, k * 12 + 3, none⟩ u3).setCell ⟨g, k * 12 + 4, none⟩ u4).setCell ⟨g, k * 12 + 5, none⟩ u5).setCell ⟨g, k * 12 + 6, none⟩ u6).setCell ⟨g, k * 12 + 7, none⟩ u7).setCell ⟨g, k * 12 + 8, none⟩ u8).setCell ⟨g, k * 12 + 9, none⟩ u9).setCell ⟨g, k * 12 + 10, none⟩ u10).setCell ⟨g, k * 12 + 11, none⟩ u11) :=
  ((((((((((((h.setCell (fun _ => hg) _).setCell (fun _ => hg) _).setCell (fun _ => hg) _).setCell (fun _ => hg) _).setCell (fun _ => hg) _).setCell (fun _ => hg) _).setCell (fun _ => hg) _).setCell (fun _ => hg) _).setCell (fun _ => hg) _).setCell (fun _ => hg) _).setCell (fun _ => hg) _).setCell (fun _ => hg) _)
/-- A version is wiped. -/
theorem WipeC.ver4 {w : World} {S : Nat → Prop} {g n k gv o : Nat} {cur : List Value} (h : WipeC w S g cur n k) (hne : g ≠ gv) (u0 u1 u2 u3 : Value) : WipeC ((((w.setCell ⟨gv, o, none⟩ u0).setCell ⟨gv, o + 1, none⟩ u1).setCell ⟨gv, o + 2, none⟩ u2).setCell ⟨gv, o + 3, none⟩ u3) S g cur n k :=
  ((((h.ver hne).ver hne).ver hne).ver hne)
theorem Same.ver4 {S : Nat → Prop} {w w' : World} {gv o : Nat} (h : Same S w w') (hg : ¬ S gv) (u0 u1 u2 u3 : Value) : Same S w ((((w'.setCell ⟨gv, o, none⟩ u0).setCell ⟨gv, o + 1, none⟩ u1).setCell ⟨gv, o + 2, none⟩ u2).setCell ⟨gv, o + 3, none⟩ u3) :=
  ((((h.setCell (fun _ => hg) _).setCell (fun _ => hg) _).setCell (fun _ => hg) _).setCell (fun _ => hg) _)
end Go.Proofs.Ytoldelocfmpccaa
