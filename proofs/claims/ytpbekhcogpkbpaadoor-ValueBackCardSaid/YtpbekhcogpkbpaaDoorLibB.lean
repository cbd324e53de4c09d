/-
  Rows of bytes that a call owns; a make with room; appends of bytes (for seats without the twins of antipodelaw0).
-/
import Derived.Test.YtpbekhcogpkbpaaDoorRows
import Derived.Test.YtpbekhcogpkbpaaDoorLib3
set_option linter.unusedSimpArgs false
set_option linter.unusedVariables false
namespace Go.Proofs.YtpbekhcogpkbpaaDoor
open Go.RowKit

theorem P_own : ownKnob Tryd.prog.godebug = none := by kernel_rfl
theorem P_laid : laidOutB Tryd.prog = true := by kernel_rfl
def TrueP (w : World) (e : Ending) (w' : World) : Prop := e = .returned (.bool true) ∧ Same (fun _ => True) w w'
theorem T8 : SlT Tryd.prog 22 5 1 1 (.int .u8 0) := ⟨by kernel_rfl, by kernel_rfl, rfl, by omega⟩
theorem made8 (n : Nat) : (madeCells (Value.int .u8 0).cells (n * 1)).toList = List.replicate n (V8 0) := by
  rw [Nat.mul_one]; exact toList_madeCells_one _ n
theorem own_cap {w : World} {B : Nat} {e : TypeId} {size : Nat} {v : Value} {n : Nat} {xs : List Value} (h : w.ownsRow B e size v n xs) : ∃ A c, v = .slice A n c ∧ n ≤ c ∧ c ≤ maxLen := by
  rcases h.2 with ⟨rfl, rfl⟩ | ⟨g, cap, cur, rfl, _, _, h1, h2, _⟩
  · exact ⟨none, 0, rfl, by omega, by simp [maxLen]⟩
  · exact ⟨_, _, rfl, h1, h2⟩
theorem own_ge {w : World} {B : Nat} {e : TypeId} {size : Nat} {v : Value} {n : Nat} {xs : List Value} (h : w.ownsRow B e size v n xs) {k : Nat} (hk : some k = v.ownBlock) : B ≤ k := (h.lt k hk.symm).1
theorem own_by {w : World} {B : Nat} {v : Value} {bs : List UInt8} {e : TypeId} (h : w.ownsRow B e 1 v bs.length (cs8 bs)) : By w (B ≤ ·) v bs := by
  obtain ⟨A, c, rfl, h1, h2⟩ := own_cap h
  exact ⟨A, c, rfl, h1, h2, (Sl.of_own h).mono fun k _ hk => own_ge h hk⟩
/-- A constant's row, marked or not, reads as its bytes. -/
theorem By.lit {w : World} {S : Nat → Prop} {g : Nat} {bs : List UInt8} {n c : Nat} {e : TypeId} {fr : Nat × Nat} (h : w.heap[g]? = some (.cells (cs8 bs).toArray e fr)) (hs : S g) (hn : n = bs.length) (hc : n ≤ c) (hm : c ≤ maxLen) :
    By w S (.slice (some ⟨g, 0, none⟩) n c) bs := by
  subst hn
  refine ⟨_, c, rfl, hc, hm, by simp [cs8], fun _ => ⟨_, rfl, hs, fun j u hu => ?_⟩⟩
  have e0 : (⟨g, 0, none⟩ : Addr).add j = ⟨g, j, none⟩ := by unfold Addr.add; split <;> simp_all
  rw [e0, cell_of_row w g j _ e fr h]
  simpa using hu
section
variable {P : Program} {t e : TypeId} {size bytes : Nat} {z : Value}
/-- make with a length and a greater capacity. -/
theorem wpList_mk2 (T : SlT P t e size bytes z) (w : World) {ops : Array Oper} {rest : List Oper} {o : Oper} {a : Act} {Q : Exit → Act → World → Prop}
    (hg : o.guard = none) (l c : Operand) (hop : o.op = Op.makeSlice t l c)
    (kl kc : IntKind) (L C : Int) (m n : Nat) (hl : a.eval l = .int kl L) (hc : a.eval c = .int kc C) (hL : L = (m : Int)) (hC : C = (n : Int)) (hmn : m ≤ n) (b2 : bytes * n ≤ 281474976710656) (b3 : n ≤ maxLen)
    (hK : ∀ w', Row w' w.heap.size e (madeCells z.cells (n * size)).toList → Same (fun _ => True) w w' → w.heap.size < w'.heap.size → wpList P ops Q rest (a.put o.dst (.slice (some ⟨w.heap.size, 0, none⟩) m n)) w') :
    wpList P ops Q (o :: rest) a w := by
  obtain ⟨i, h2, h3, h4, h5⟩ := info_parts T.info
  refine wpList_plain hg fun K hK' => ?_
  subst hL hC
  have h63' : (n : Int) ≤ 9223372036854775807 := by
    have h := b3
    simp [maxLen] at h
    omega
  have hb' : (i.bytes : Int) * (n : Int) ≤ 281474976710656 := by
    have h : ((i.bytes * n : Nat) : Int) ≤ 281474976710656 := by rw [h5]; omega
    rwa [Int.natCast_mul] at h
  have hr := run_make (P := P) w t e i z T.und h2 h3 kl kc m n (by omega) (by omega) hb' h63'
  simp only [Int.toNat_natCast] at hr
  unfold Oper.wp
  simp [execOp, hop, hl, hc, hr, Result.andThen]
  refine hK' _ _ (hK _ ?_ ((Same.refl _ _).alloc _) (by simp))
  rw [h4]
  have := Row.new w e (madeCells z.cells (n * size)).toList
  rwa [Array.toArray_toList] at this
end

/-- A row of bytes that the call owns, from block B on. -/
def OwnB (w : World) (B : Nat) (v : Value) (bs : List UInt8) : Prop := w.ownsRow B 5 1 v bs.length (cs8 bs)
theorem OwnB.nil (w : World) (B : Nat) : OwnB w B (.slice none 0 0) [] := World.ownsRow_nil _ _ _ _
theorem OwnB.form {w : World} {B : Nat} {v : Value} {bs : List UInt8} (h : OwnB w B v bs) : ∃ A c, v = .slice A bs.length c ∧ bs.length ≤ c ∧ c ≤ maxLen := own_cap h
theorem OwnB.formN {w : World} {B n : Nat} {v : Value} {bs : List UInt8} (h : OwnB w B v bs) (hn : bs.length = n) : ∃ A c, v = .slice A n c ∧ n ≤ c ∧ c ≤ maxLen := by
  subst hn
  exact own_cap h
theorem OwnB.byLt {w : World} {B : Nat} {v : Value} {bs : List UInt8} (h : OwnB w B v bs) : By w (fun k => B ≤ k ∧ k < w.heap.size) v bs := (own_by h).mono fun k h1 h2 => ⟨h2, h1⟩
theorem OwnB.by_ {w : World} {B : Nat} {v : Value} {bs : List UInt8} (h : OwnB w B v bs) : By w (B ≤ ·) v bs := own_by h
theorem OwnB.keep {w w' : World} {S : Nat → Prop} {B : Nat} {v : Value} {bs : List UInt8} (h : OwnB w B v bs) (hs : Same S w w') (hS : ∀ k, B ≤ k → k < w.heap.size → S k) : OwnB w' B v bs :=
  own_keep h (hs.mono (S' := fun k => S k) fun _ _ h => h) fun k hk => hS k (own_ge h hk.symm) (h.lt k hk).2
theorem OwnB.lt_ {w : World} {B : Nat} {v : Value} {bs : List UInt8} (h : OwnB w B v bs) {k : Nat} (hk : v.ownBlock = some k) : B ≤ k ∧ k < w.heap.size := h.lt k hk
theorem OwnB.keepAll {w w' : World} {B : Nat} {v : Value} {bs : List UInt8} (h : OwnB w B v bs) (hs : Same (fun _ => True) w w') : OwnB w' B v bs := own_keepAll h hs
theorem OwnB.lower {w : World} {B B' : Nat} {v : Value} {bs : List UInt8} (h : OwnB w B v bs) (hb : B' ≤ B) : OwnB w B' v bs := by
  refine ⟨h.1, ?_⟩
  rcases h.2 with h2 | ⟨g, cap, cur, e, h1, h3⟩
  · exact .inl h2
  · exact .inr ⟨g, cap, cur, e, by omega, h3⟩
theorem Row.by_ {w : World} {g : Nat} {bs : List UInt8} (h : Row w g 5 (cs8 bs)) (hm : bs.length ≤ maxLen) : By w (fun k => k = g) (.slice (some ⟨g, 0, none⟩) bs.length bs.length) bs := by
  refine ⟨_, _, rfl, Nat.le_refl _, hm, ?_⟩
  have := h.sl (size := 1) (off := 0) (n := bs.length) (by simp)
  rw [List.drop_zero, List.take_of_length_le (by simp)] at this
  exact this
/-- The empty row that '[]byte{}' lays. -/
theorem OwnB.fresh {w : World} {B : Nat} (hB : B ≤ w.heap.size) : OwnB (w.alloc (.cells #[] 5)) B (.slice (some ⟨w.heap.size, 0, none⟩) 0 0) [] :=
  (Row.new w 5 []).owns (base := B) (size := 1) (n := 0) (cap := 0) hB (by simp) (Nat.le_refl _) (by simp [maxLen])
/-- The fresh row of a make. -/
theorem OwnB.made {w w' : World} {n : Nat} (h : Row w' w.heap.size 5 (madeCells (Value.int .u8 0).cells (n * 1)).toList) (hn : n ≤ maxLen) : OwnB w' w.heap.size (.slice (some ⟨w.heap.size, 0, none⟩) 0 n) [] := by
  rw [made8] at h
  have := h.owns (base := w.heap.size) (size := 1) (n := 0) (cap := n) (Nat.le_refl _) (by simp) (by omega) hn
  simpa [OwnB] using this
/-- Bytes behind a row that the call owns. -/
theorem wpList_appB {w : World} {ops : Array Oper} {rest : List Oper} {o : Oper} {a : Act} {Q : Exit → Act → World → Prop} (hgd : o.guard = none) (s x : Operand)
    (ho : o.op = .call { callee := .builtin .append, args := #[s, x], argTypes := #[22, 22] }) {B : Nat} {v u : Value} {bs es : List UInt8} {S : Nat → Prop}
    (hs : a.eval s = v) (hx : a.eval x = u) (hown : OwnB w B v bs) (hu : By w S u es) (hB : B ≤ w.heap.size) (hlen : bs.length + es.length ≤ 100000000)
    (hK : ∀ v' w', OwnB w' B v' (bs ++ es) → Same (fun k => some k ≠ v.ownBlock) w w' → (v'.ownBlock = v.ownBlock ∨ v'.ownBlock = some w.heap.size) → wpList Tryd.prog ops Q rest (a.put o.dst v') w') : wpList Tryd.prog ops Q (o :: rest) a w := by
  obtain ⟨A, c, rfl, hc, hm, hsl⟩ := hu
  refine wpList_app T8 w hgd s x ho B v bs.length (cs8 bs) hs hown S A es.length c (cs8 es) hx hsl (oneCell8 _) (by simp only [maxLen]; omega) (by omega) hB ?_
  intro v' w' h1 h2 h3
  refine hK v' w' ?_ h2 h3
  have e : cs8 bs ++ cs8 es = cs8 (bs ++ es) := by simp [cs8]
  unfold OwnB
  rw [List.length_append, ← e]
  exact h1
/-- The same, for a chain: whatever lies below block B stays. -/
theorem wpList_appL {w : World} {ops : Array Oper} {rest : List Oper} {o : Oper} {a : Act} {Q : Exit → Act → World → Prop} (hgd : o.guard = none) (s x : Operand)
    (ho : o.op = .call { callee := .builtin .append, args := #[s, x], argTypes := #[22, 22] }) {B : Nat} {v u : Value} {bs es : List UInt8} {S : Nat → Prop}
    (hs : a.eval s = v) (hx : a.eval x = u) (hown : OwnB w B v bs) (hu : By w S u es) (hB : B ≤ w.heap.size) (hlen : bs.length + es.length ≤ 100000000)
    (hK : ∀ v' w', OwnB w' B v' (bs ++ es) → Same (fun k => k < B) w w' → wpList Tryd.prog ops Q rest (a.put o.dst v') w') : wpList Tryd.prog ops Q (o :: rest) a w :=
  wpList_appB hgd s x ho hs hx hown hu hB hlen fun v' w' h1 h2 _ => hK v' w' h1 (h2.mono fun k _ hk e => by have := (hown.lt_ e.symm).1; omega)
theorem size_alloc1 (w : World) (o : Obj) : (w.alloc o).heap.size = w.heap.size + 1 := by simp
/-- A slice of a slice that reads. -/
theorem By.cut {w : World} {S : Nat → Prop} {ad : Addr} {n c : Nat} {bs : List UInt8} (h : By w S (.slice (some ad) n c) bs) (i j m : Nat) (hij : i ≤ j) (hj : j ≤ bs.length) (hm : j - i ≤ m) (hmm : m ≤ maxLen) :
    By w S (.slice (some (ad.add i)) (j - i) m) ((bs.drop i).take (j - i)) := by
  obtain ⟨A, c', e, h1, h2, h3⟩ := h
  injection e with e1 e2 e3
  subst e1 e3
  have hl : ((bs.drop i).take (j - i)).length = j - i := by simp; omega
  refine ⟨_, m, by rw [hl], by rw [hl]; exact hm, hmm, by rw [hl]; simp [cs8]; omega, fun hn => ?_⟩
  rw [hl] at hn
  obtain ⟨ad', e, hb, hc⟩ := h3.2 (by omega)
  injection e with e
  subst e
  refine ⟨_, rfl, by rw [block_of_add]; exact hb, fun k u hu => ?_⟩
  rw [add_of_add]
  refine hc (i + k) u ?_
  simp only [cs8, List.map_take, List.map_drop, List.getElem?_take, List.getElem?_drop] at hu ⊢
  split at hu
  · exact hu
  · cases hu
/-- An empty slice reads as nothing, wherever it lies. -/
theorem By.none_ (w : World) (S : Nat → Prop) (A : Option Addr) (c : Nat) (hc : c ≤ maxLen) : By w S (.slice A 0 c) [] := ⟨A, c, rfl, by simp, hc, Sl.nil _ _ _ _⟩
/-- One byte behind a row that the call owns: it was laid into a block of its own. -/
theorem wpList_appB1 {w : World} {ops : Array Oper} {rest : List Oper} {o : Oper} {a : Act} {Q : Exit → Act → World → Prop} (hgd : o.guard = none) (s x : Operand)
    (ho : o.op = .call { callee := .builtin .append, args := #[s, x], argTypes := #[22, 22] }) {B : Nat} {v : Value} {bs : List UInt8} {c : UInt8}
    (hs : a.eval s = v) (hx : a.eval x = .slice (some ⟨w.heap.size, 0, none⟩) 1 1) (hown : OwnB w B v bs) (hB : B ≤ w.heap.size) (hlen : bs.length + 1 ≤ 100000000)
    (hK : ∀ v' w', OwnB w' B v' (bs ++ [c]) → Same (fun k => k < B) w w' → wpList Tryd.prog ops Q rest (a.put o.dst v') w') : wpList Tryd.prog ops Q (o :: rest) a (w.alloc (.cells #[V8 c] 5)) := by
  have h1 : Same (fun _ => True) w (w.alloc (.cells #[V8 c] 5)) := (Same.refl _ _).alloc _
  refine wpList_appL hgd s x ho hs hx (hown.keepAll h1) (By.lit (S := fun _ => True) (bs := [c]) (fr := (0, 0)) (e := 5) (heap_now rfl) trivial rfl (by omega) (by simp [maxLen])) (by simp; omega) (by simpa using hlen) ?_
  intro v' w' h2 h3
  exact hK v' w' h2 ((h1.mono fun _ _ _ => trivial).trans h3)
end Go.Proofs.YtpbekhcogpkbpaaDoor
