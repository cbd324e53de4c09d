/-
  The words, plain models and short walks of mvcc that the claims share (written by bundle.py out of: MvS4). No condition.
-/
import Derived.Test.YtoldelocfmpccaaMvS3H
set_option linter.unusedSimpArgs false
set_option linter.unusedVariables false
namespace Go.Proofs.Ytoldelocfmpccaa
open Go.RowKit

/-- Cells that the call owns: the row in blocks from B on, the versions in blocks from Bv on. -/
def OwnD (w : World) (B Bv : Nat) (v : Value) (cs : List Cel) : Prop :=
  ∃ us : List Value, us.length = cs.length ∧ OwnR celCs 12 64 w B v (us.zip cs) ∧ ∀ i (h : i < cs.length) (h' : i < us.length), RowW verCs 4 69 w (fun k => Bv ≤ k) us[i] cs[i].vers
section
variable {w w' : World} {B Bv : Nat} {v : Value} {cs : List Cel}
theorem OwnD.nil (w : World) (B Bv : Nat) : OwnD w B Bv (.slice none 0 0) [] := ⟨[], rfl, OwnR.nil _ _, fun i h => absurd h (Nat.not_lt_zero _)⟩
theorem OwnD.keepAll (h : OwnD w B Bv v cs) (hs : Same (fun _ => True) w w') : OwnD w' B Bv v cs := by
  obtain ⟨us, h1, h2, h3⟩ := h
  exact ⟨us, h1, h2.keepAll hs, fun i a b => (h3 i a b).keepAll hs⟩
theorem OwnD.form3 (h : OwnD w B Bv v cs) : ∃ A n c, v = .slice A n c ∧ n ≤ c ∧ c ≤ maxLen := by
  obtain ⟨us, h1, h2, _⟩ := h
  obtain ⟨A, c, e1, e2, e3⟩ := h2.form
  exact ⟨A, _, c, e1, e2, e3⟩
theorem OwnD.own {b : Nat} (h : OwnD w B Bv v cs) (h1 : b ≤ B) (h2 : b ≤ Bv) : OwnC w b v cs := by
  obtain ⟨us, e1, e2, e3⟩ := h
  exact ⟨us, e1, e2.lower h1, fun i a c => (e3 i a c).mono fun k _ hk => Nat.le_trans h2 hk⟩
end
/-- One cell behind cells that the call owns. -/
theorem wpList_appD {w : World} {ops : Array Oper} {rest : List Oper} {o : Oper} {a : Act} {Q : Exit → Act → World → Prop} (hgd : o.guard = none) (s x : Operand)
    (ho : o.op = .call { callee := .builtin .append, args := #[s, x], argTypes := #[33, 33] }) {B Bv : Nat} {v : Value} {cs : List Cel} {c : Cel} {A : Option Addr} {n cp : Nat}
    (hs : a.eval s = v) {g : Nat} (hx : a.eval x = .slice (some ⟨g, 0, none⟩) 1 1) (hg : g = w.heap.size) (hown : OwnD w B Bv v cs) (hu : RowW verCs 4 69 w (fun k => Bv ≤ k) (.slice A n cp) c.vers) (hB : B ≤ w.heap.size) (hlen : cs.length ≤ 1000000)
    (hK : ∀ v' w', OwnD w' B Bv v' (cs ++ [c]) → Same (fun k => k < B) w w' → wpList Try.prog ops Q rest (a.put o.dst v') w') : wpList Try.prog ops Q (o :: rest) a (w.alloc (.cells (celCs (.slice A n cp, c)).toArray 64)) := by
  subst hg
  obtain ⟨us, u1, u2, u3⟩ := hown
  have hul : (us.zip cs).length = cs.length := by simp [u1]
  have hs1 : Same (fun _ => True) w (w.alloc (.cells (celCs (.slice A n cp, c)).toArray 64)) := (Same.refl _ _).alloc _
  have hrow := Row.new w 64 (celCs (.slice A n cp, c))
  have hsl := hrow.sl (size := 12) (off := 0) (n := 1) (by rw [celCs_len]; omega)
  rw [List.drop_zero, List.take_of_length_le (by rw [celCs_len]; omega)] at hsl
  refine wpList_app TCel _ hgd s x ho B v (us.zip cs).length ((us.zip cs).flatMap celCs) hs (u2.keepAll hs1) _ _ 1 1 (celCs (.slice A n cp, c)) hx hsl (celCs_one c) (by rw [hul]; simp only [maxLen]; omega) (by rw [hul]; omega) (by simp; omega) ?_
  intro v' w' h2 h3 h4
  refine hK v' w' ⟨us ++ [.slice A n cp], by simp [u1], ?_, ?_⟩ ((hs1.mono fun _ _ _ => trivial).trans (h3.mono fun k _ hk e' => by have := (u2.keepAll hs1).lt_ e'.symm; omega))
  · unfold OwnR
    rw [List.zip_append u1, List.length_append, List.flatMap_append]
    simpa using h2
  · intro i hi hi'
    have ho1 := u2.keepAll hs1
    by_cases hlt : i < cs.length
    · rw [List.getElem_append_left (by omega), List.getElem_append_left hlt]
      exact ((u3 i hlt (by omega)).keepAll hs1).keepOwn ho1 (by decide) h3
    · have e : i = cs.length := by simp at hi; omega
      subst e
      rw [List.getElem_append_right (by omega), List.getElem_append_right (by omega)]
      simp only [u1, Nat.sub_self, List.getElem_singleton]
      exact (hu.keepAll hs1).keepOwn ho1 (by decide) h3
/-- What a loop holds that makes of each cell one cell or none: w is the world behind the copy. -/
structure FlatD (f : Cel → List Cel) (cs : List Cel) (B Bv p : Nat) (ty : TypeId) (xs : List Value) (k : Nat) (l : Value) (w wr : World) : Prop where
  le : k ≤ cs.length
  own : OwnD wr B Bv l ((cs.take k).flatMap f)
  row : Row wr p ty xs
  lt : p < B
  size : B ≤ wr.heap.size
  same : Same (fun _ => True) w wr
section
variable {f : Cel → List Cel} {cs : List Cel} {B Bv p : Nat} {ty : TypeId} {xs : List Value} {k : Nat} {l : Value} {w wr W : World}
theorem FlatD.next (h : FlatD f cs B Bv p ty xs k l w wr) (hk : k < cs.length) (hf : f cs[k] = []) (hS : Same (fun _ => True) wr W) : FlatD f cs B Bv p ty xs (k + 1) l w W :=
  ⟨hk, by rw [flat_step hk, hf, List.append_nil]; exact h.own.keepAll hS, h.row.keep hS trivial, h.lt, Nat.le_trans h.size hS.size, h.same.trans hS⟩
theorem FlatD.more {l' : Value} {c : Cel} (h : FlatD f cs B Bv p ty xs k l w wr) (hk : k < cs.length) (hf : f cs[k] = [c]) (ho : OwnD W B Bv l' ((cs.take k).flatMap f ++ [c])) (hw : w.heap.size ≤ B) (hS : Same (fun q => q < B) wr W) : FlatD f cs B Bv p ty xs (k + 1) l' w W :=
  ⟨hk, by rw [flat_step hk, hf]; exact ho, h.row.keep hS h.lt, h.lt, Nat.le_trans h.size hS.size, h.same.trans' hS fun q hq _ => Nat.lt_of_lt_of_le hq hw⟩
theorem wpList_appKD {w7 w0 : World} {ops : Array Oper} {rest : List Oper} {o : Oper} {a : Act} {Q : Exit → Act → World → Prop} (hgd : o.guard = none) (s x : Operand)
    (ho : o.op = .call { callee := .builtin .append, args := #[s, x], argTypes := #[33, 33] }) {v : Value} {c : Cel} {A : Option Addr} {n cp : Nat} {arr : Array Value}
    (hs : a.eval s = v) {g : Nat} (hx : a.eval x = .slice (some ⟨g, 0, none⟩) 1 1) (hg : g = W.heap.size) (harr : arr = (celCs (.slice A n cp, c)).toArray) (h : FlatD f cs B Bv p ty xs k v w0 wr) (hf1 : ∀ c, (f c).length ≤ 1) (hk : k < cs.length) (hf : f cs[k] = [c]) (hn : cs.length ≤ 100000) (hw : w0.heap.size ≤ B)
    {Sx : Nat → Prop} (hu : RowW verCs 4 69 w7 Sx (.slice A n cp) c.vers) (hSx : ∀ q, Sx q → Bv ≤ q) (hS7 : Same Sx w7 W) (hS : Same (fun _ => True) wr W)
    (hK : ∀ v' w', Hid (FlatD f cs B Bv p ty xs (k + 1) v' w0 w') → wpList Try.prog ops Q rest (a.put o.dst v') w') : wpList Try.prog ops Q (o :: rest) a (W.alloc (.cells arr 64)) := by
  subst harr
  have hle := flat_len_le hf1 (cs.take k)
  rw [List.length_take] at hle
  refine wpList_appD (w := W) (c := c) (B := B) (Bv := Bv) hgd s x ho hs hx hg (h.own.keepAll hS) ((hu.keep hS7).mono fun q _ h => hSx q h) (Nat.le_trans h.size hS.size) (by omega) fun v' w' h1 h2 => hK v' w' (Lib.hid (h.more hk hf h1 hw ((hS.mono fun _ _ _ => trivial).trans h2)))
end
/-- The cells of one cell that the call owns, and its versions. -/
theorem OwnC.cells12 {w : World} {B : Nat} {A : Option Addr} {n c : Nat} {cs : List Cel} (h : OwnC w B (.slice A n c) cs) {i : Nat} (hi : i < cs.length) : ∃ ad u, A = some ad ∧ B ≤ ad.block ∧ RowW verCs 4 69 w (fun k => B ≤ k) u cs[i].vers ∧
    w.cell? (ad.add (i * 12)) = some (.string (str cs[i].key)) ∧ w.cell? ⟨(ad.add (i * 12)).block, (ad.add (i * 12)).off + 1, none⟩ = some (u) ∧ w.cell? ⟨(ad.add (i * 12)).block, (ad.add (i * 12)).off + 2, none⟩ = some (.bool cs[i].locked) ∧ w.cell? ⟨(ad.add (i * 12)).block, (ad.add (i * 12)).off + 3, none⟩ = some (.int .i64 cs[i].lock.by_.node) ∧ w.cell? ⟨(ad.add (i * 12)).block, (ad.add (i * 12)).off + 4, none⟩ = some (.int .i64 cs[i].lock.by_.life) ∧ w.cell? ⟨(ad.add (i * 12)).block, (ad.add (i * 12)).off + 5, none⟩ = some (.int .i64 cs[i].lock.by_.seq) ∧ w.cell? ⟨(ad.add (i * 12)).block, (ad.add (i * 12)).off + 6, none⟩ = some (.int .i64 cs[i].lock.by_.attempt) ∧ w.cell? ⟨(ad.add (i * 12)).block, (ad.add (i * 12)).off + 7, none⟩ = some (.int .i64 cs[i].lock.home) ∧ w.cell? ⟨(ad.add (i * 12)).block, (ad.add (i * 12)).off + 8, none⟩ = some (.int .i64 cs[i].lock.at_.wall) ∧ w.cell? ⟨(ad.add (i * 12)).block, (ad.add (i * 12)).off + 9, none⟩ = some (.int .i64 cs[i].lock.at_.tie) ∧ w.cell? ⟨(ad.add (i * 12)).block, (ad.add (i * 12)).off + 10, none⟩ = some (.bool cs[i].lock.drop) ∧ w.cell? ⟨(ad.add (i * 12)).block, (ad.add (i * 12)).off + 11, none⟩ = some (.string (str cs[i].lock.data)) := by
  obtain ⟨us, h1, h2, h3⟩ := h
  have e : (us.zip cs).length = cs.length := by simp [h1]
  obtain ⟨ad, c', a1, a2, a3, a4, a5⟩ := RowR.at_ (h2.wr.row celCs_len) celCs_len (i := i) (by omega)
  have e2 : (us.zip cs)[i]'(by omega) = (us[i]'(by omega), cs[i]) := by simp
  rw [e2] at a5
  injection a1 with a1 _ _
  have key : ∀ j, 0 < j → j < 12 → w.cell? ⟨(ad.add (i * 12)).block, (ad.add (i * 12)).off + j, none⟩ = (celCs (us[i]'(by omega), cs[i]))[j]? := fun j h0 hj => by
    have := a5 j hj
    rw [addr_add _ j h0] at this
    exact this
  exact ⟨ad, us[i]'(by omega), a1, a4, h3 i hi (by omega), by have := a5 0 (by omega); rwa [add_zero] at this, key 1 (by omega) (by omega), key 2 (by omega) (by omega), key 3 (by omega) (by omega), key 4 (by omega) (by omega), key 5 (by omega) (by omega), key 6 (by omega) (by omega), key 7 (by omega) (by omega), key 8 (by omega) (by omega), key 9 (by omega) (by omega), key 10 (by omega) (by omega), key 11 (by omega) (by omega)⟩
end Go.Proofs.Ytoldelocfmpccaa
