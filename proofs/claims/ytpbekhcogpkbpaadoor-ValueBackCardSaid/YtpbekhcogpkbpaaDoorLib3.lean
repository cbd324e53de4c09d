/-
  More words: a row with a mark behind its cells (what a string was laid into), and the conversions between strings and bytes at an operation.
-/
import Derived.Test.YtpbekhcogpkbpaaDoorLib
import Derived.Laws.IdiomStrings
set_option linter.unusedSimpArgs false
set_option linter.unusedVariables false
namespace Go.Proofs.YtpbekhcogpkbpaaDoor
open Go.RowKit

abbrev bl (s : ByteArray) : List UInt8 := s.data.toList
theorem bl_len (s : ByteArray) : (bl s).length = s.size := Array.length_toList
theorem str_bl (s : ByteArray) : str (bl s) = s := rfl
theorem bl_str (l : List UInt8) : bl (str l) = l := rfl

/-- A block of cells known whole, its mark behind the first q cells. -/
def RowQ (w : World) (g : Nat) (e : TypeId) (q : Nat) (xs : List Value) : Prop := w.heap[g]? = some (.cells xs.toArray e (q, q + 1))
section
variable {S : Nat → Prop} {w w' : World} {g q : Nat} {e : TypeId} {xs : List Value}
theorem RowQ.lt (h : RowQ w g e q xs) : g < w.heap.size := by
  rcases Nat.lt_or_ge g w.heap.size with hlt | hge
  · exact hlt
  · unfold RowQ at h; rw [Array.getElem?_eq_none hge] at h; cases h
theorem RowQ.cell (h : RowQ w g e q xs) (i : Nat) : w.cell? ⟨g, i, none⟩ = xs[i]? := by
  rw [cell_of_row w g i _ e _ h]; simp
theorem RowQ.frozen (h : RowQ w g e q xs) (i : Nat) (hi : i < q) : w.frozen? ⟨g, i, none⟩ = false := by
  unfold RowQ at h
  simp [World.frozen?, h]; omega
theorem RowQ.keep (h : RowQ w g e q xs) (hk : Same S w w') (hs : S g) : RowQ w' g e q xs := (hk.block g h.lt hs).trans h
theorem RowQ.set_ (h : RowQ w g e q xs) (i : Nat) (u : Value) : RowQ (w.setCell ⟨g, i, none⟩ u) g e q (xs.set i u) := by
  unfold RowQ at h ⊢
  simp [World.setCell, Array.getElem?_modify, h]
theorem RowQ.sl (h : RowQ w g e q xs) {n : Nat} (hn : n ≤ xs.length) : Sl w (fun k => k = g) 1 (some ⟨g, 0, none⟩) n (xs.take n) := by
  refine ⟨by simp; omega, fun _ => ⟨_, rfl, rfl, fun j u hu => ?_⟩⟩
  have e0 : (⟨g, 0, none⟩ : Addr).add j = ⟨g, j, none⟩ := by unfold Addr.add; split <;> simp_all
  rw [e0, h.cell]
  rw [List.getElem?_take] at hu
  split at hu
  · exact hu
  · cases hu
end
/-- A guard: the operation is a conversion. -/
theorem stopConv {P : Program} {w : World} {ops : Array Oper} {rest : List Oper} {o : Oper} {a : Act} {Q : Exit → Act → World → Prop} {t u : TypeId} {x : Operand}
    (ho : o.op = .convert t u x) (h : Hid (wpList P ops Q (o :: rest) a w)) : wpList P ops Q (o :: rest) a w := h
theorem wpList_conv {P : Program} {w w' : World} {ops : Array Oper} {rest : List Oper} {o : Oper} {a : Act} {Q : Exit → Act → World → Prop} (hgd : o.guard = none) {t u : TypeId} {x : Operand}
    (ho : o.op = .convert t u x) {v r : Value} (hx : a.eval x = v) (hr : (convert t u v).run P w = .ok r w') (h : wpList P ops Q rest (a.put o.dst r) w') : wpList P ops Q (o :: rest) a w := by
  refine wpList_plain hgd fun K hK => ?_
  unfold Oper.wp execOp
  simp only [ho, hx, hr, Sem.run_bind, Sem.run_pure, Result.andThen_ok]
  exact hK _ _ h
/-- '[]byte(s)': a row of its own, with room behind. -/
theorem wpList_bytes {P : Program} {w : World} {ops : Array Oper} {rest : List Oper} {o : Oper} {a : Act} {Q : Exit → Act → World → Prop} (hgd : o.guard = none) {t u e : TypeId} {x : Operand}
    (ho : o.op = .convert t u x) (hs : P.underlying t = some .string) (hd : P.underlying u = some (.slice e)) (he : P.underlying e = some (.int .u8)) (s : ByteArray) (hx : a.eval x = .string s) (hm : s.size ≤ maxLen)
    (h : ∀ (w' : World) (c q : Nat) (more : List Value), RowQ w' w.heap.size e q (cs8 (bl s) ++ more) → s.size ≤ q → s.size ≤ c → c ≤ maxLen → Same (fun _ => True) w w' → w.heap.size < w'.heap.size → wpList P ops Q rest (a.put o.dst (.slice (some ⟨w.heap.size, 0, none⟩) s.size c)) w') :
    wpList P ops Q (o :: rest) a w := by
  have hr := run_bytes_of_string (P := P) w t u e s hs hd he
  refine wpList_conv hgd ho hx hr ?_
  have hge := grownCap_ge w s.size 0 e
  have hle := grownCap_le_maxLen w s.size 0 e hm
  generalize grownCap w s.size 0 e = c at *
  have hsz : (bytesRow s c).size = s.size + (c - s.size) := by simp [bytesRow]
  refine h _ c (bytesRow s c).size (List.replicate (c - s.size) (.int .u8 0)) ?_ (by omega) hge hle (((Same.refl _ _).drew).alloc _) (by simp)
  have e1 : (cs8 (bl s) ++ List.replicate (c - s.size) (Value.int .u8 0)).toArray = bytesRow s c := by
    apply Array.toList_inj.1
    simp [bytesRow, cs8, V8, n8]
  unfold RowQ
  rw [e1]
  have := heap_alloc_new w.drew (.cells (bytesRow s c) e ((bytesRow s c).size, (bytesRow s c).size + 1))
  exact this
theorem RowQ.by_ {w : World} {g q c n : Nat} {e : TypeId} {l : List UInt8} {more : List Value} (h : RowQ w g e q (cs8 l ++ more)) (hn : l.length = n) (hc : n ≤ c) (hm : c ≤ maxLen) : By w (fun k => k = g) (.slice (some ⟨g, 0, none⟩) n c) l := by
  subst hn
  have h1 := h.sl (n := l.length) (by simp [cs8])
  rw [List.take_append_of_le_length (by simp [cs8]), List.take_of_length_le (by simp [cs8])] at h1
  exact ⟨_, c, rfl, hc, hm, h1⟩
/-- The conversion of bytes that read. -/
theorem By.conv {P : Program} {w : World} {S : Nat → Prop} {v : Value} {l : List UInt8} (src dst e : TypeId)
    (hs : P.underlying src = some (.slice e)) (he : P.underlying e = some (.int .u8)) (hd : P.underlying dst = some .string) (h : By w S v l) : (convert src dst v).run P w = .ok (.string (str l)) w := by
  obtain ⟨A, c, rfl, _, _, h⟩ := h
  exact conv_str c src dst e hs he hd h
end Go.Proofs.YtpbekhcogpkbpaaDoor
