/-
  A small library of this prover's own: words for what a slice reads as, which blocks a world keeps, and the frame that closes every law.
-/
import Derived.WalkKit
import Derived.WalkSpells
import Derived.WalkLawsBesides
import Derived.ProofKit
import Derived.OpenShut
import Derived.ChangeOld
import Derived.Below
import Derived.Carry
import Derived.Deep.Slices
import Derived.Maps.AppendAt
import Derived.Deep.AppendLies
import Derived.RegionTactic
import Derived.OwnWalk
import Derived.Lib.Hide
import Derived.Laws.CopyOwn
import Derived.Laws.BytesArg
set_option linter.unusedSimpArgs false
set_option linter.unusedVariables false
namespace Go.Proofs.YtpbekhcogpkbpaaDoor
open Go.RowKit Go.ChangeShapes Go.WideShapes Go.ChangeAt

/-! ### numbers of fixed width, kept closed to simp -/
def n8 (c : UInt8) : Int := c.toNat
def n32 (c : UInt32) : Int := c.toNat
def n64 (c : UInt64) : Int := c.toNat
abbrev V8 (c : UInt8) : Value := .int .u8 (n8 c)
theorem n8_bd (c : UInt8) : 0 ≤ n8 c ∧ n8 c < 256 := by unfold n8; have := c.toNat_lt; omega
theorem n32_bd (c : UInt32) : 0 ≤ n32 c ∧ n32 c < 4294967296 := by unfold n32; have := c.toNat_lt; omega
theorem n8_inj {a b : UInt8} : n8 a = n8 b ↔ a = b := by
  unfold n8; constructor
  · intro h; exact UInt8.toNat_inj.1 (by omega)
  · rintro rfl; rfl
theorem n32_inj {a b : UInt32} : n32 a = n32 b ↔ a = b := by
  unfold n32; constructor
  · intro h; exact UInt32.toNat_inj.1 (by omega)
  · rintro rfl; rfl

theorem u32_wrap_nat (n : Nat) (h : n < 4294967296) : IntKind.u32.wrap (n : Int) = n := by
  simp [IntKind.wrap, IntKind.bits, IntKind.signed]; omega
theorem u32_bv (c : UInt32) : BitVec.ofInt 32 (c.toNat : Int) = c.toBitVec := by
  apply BitVec.eq_of_toNat_eq; simp
theorem u32_back (c : BitVec 32) : IntKind.u32.wrap (c.toNat : Int) = ((UInt32.ofBitVec c).toNat : Int) := by
  rw [u32_wrap_nat _ c.isLt]; rfl

theorem u8_xor (a b : UInt8) : Go.bits .xor .u8 (n8 a) (n8 b) = n8 (a ^^^ b) := by
  have key : ∀ c : UInt8, BitVec.ofInt 8 (c.toNat : Int) = c.toBitVec := fun c => by apply BitVec.eq_of_toNat_eq; simp
  have back : ∀ c : BitVec 8, IntKind.u8.wrap (c.toNat : Int) = ((UInt8.ofBitVec c).toNat : Int) := fun c => by
    have := c.isLt
    have e : (UInt8.ofBitVec c).toNat = c.toNat := rfl
    rw [e]
    simp [IntKind.wrap, IntKind.bits, IntKind.signed]; omega
  unfold n8
  show IntKind.u8.wrap ((BitVec.ofInt 8 (a.toNat : Int) ^^^ BitVec.ofInt 8 (b.toNat : Int)).toNat : Int) = _
  rw [key, key, back]
  rfl
/-- Lets a walk stand still, to look at it. -/
theorem stopAt {p : Prop} (h : Hid p) : p := h

/-! ### which blocks a world keeps -/
structure Same (S : Nat → Prop) (w w' : World) : Prop where
  os : w'.os = w.os
  tape : w'.tape = w.tape
  output : w'.output = w.output
  size : w.heap.size ≤ w'.heap.size
  block : ∀ k, k < w.heap.size → S k → w'.heap[k]? = w.heap[k]?

section
variable {S S' : Nat → Prop} {w w' w'' : World}
theorem Same.refl (S : Nat → Prop) (w : World) : Same S w w := ⟨rfl, rfl, rfl, Nat.le_refl _, fun _ _ _ => rfl⟩
theorem Same.trans (h : Same S w w') (k : Same S w' w'') : Same S w w'' :=
  ⟨k.os.trans h.os, k.tape.trans h.tape, k.output.trans h.output, Nat.le_trans h.size k.size, fun i hi hs => (k.block i (Nat.lt_of_lt_of_le hi h.size) hs).trans (h.block i hi hs)⟩
/-- The second step may write whatever is new since w. -/
theorem Same.trans' (h : Same S w w') (k : Same S' w' w'') (hs : ∀ i, i < w.heap.size → S i → S' i) : Same S w w'' :=
  ⟨k.os.trans h.os, k.tape.trans h.tape, k.output.trans h.output, Nat.le_trans h.size k.size, fun i hi hS => (k.block i (Nat.lt_of_lt_of_le hi h.size) (hs i hi hS)).trans (h.block i hi hS)⟩
theorem Same.mono (h : Same S w w') (hs : ∀ i, i < w.heap.size → S' i → S i) : Same S' w w' := ⟨h.os, h.tape, h.output, h.size, fun i hi hS => h.block i hi (hs i hi hS)⟩
theorem Same.below (h : Same S w w') {B : Nat} (hB : B ≤ w.heap.size) (hs : ∀ i, i < B → S i) : Below B w w' := ⟨h.os, h.tape, h.output, h.size, fun i hi => h.block i (by omega) (hs i hi)⟩
theorem Same.ofBelow {B : Nat} (h : Below B w w') : Same (· < B) w w' := ⟨h.os, h.tape, h.output, h.size, fun i _ hi => h.block i hi⟩
theorem Same.ofGrown {row : Option Nat} (h : w.grownBy w' row) : Same (fun k => some k ≠ row) w w' := ⟨h.os, h.tape, h.output, h.size, fun i hi hs => h.block i hi hs⟩
theorem Same.drew (h : Same S w w') : Same S w w'.drew := ⟨h.os, h.tape, h.output, h.size, h.block⟩
theorem Same.drewN (h : Same S w w') (n : Nat) : Same S w (w'.drewN n) := ⟨h.os, h.tape, h.output, h.size, h.block⟩
theorem Same.alloc (h : Same S w w') (o : Obj) : Same S w (w'.alloc o) :=
  h.trans ⟨rfl, rfl, rfl, by simp, fun k hk _ => Below.heap_alloc _ _ _ hk⟩
theorem Same.setCell (h : Same S w w') {p : Addr} (hp : p.block < w.heap.size → ¬ S p.block) (u : Value) : Same S w (w'.setCell p u) :=
  ⟨h.os, h.tape, h.output, by have := h.size; simpa [World.setCell] using this, fun k hk hs => by
    rw [Below.heap_setCell _ _ _ _ (fun e => hp (e ▸ hk) (e ▸ hs))]; exact h.block k hk hs⟩
theorem Same.cell (h : Same S w w') {p : Addr} {v : Value} (hs : S p.block) (hc : w.cell? p = some v) : w'.cell? p = some v := by
  rw [World.cell?_of_block (w := w) (h.block p.block (World.block_lt_of_cell? w p hc) hs)]; exact hc
theorem Same.frozen (h : Same S w w') {p : Addr} (hp : p.block < w.heap.size) (hs : S p.block) : w'.frozen? p = w.frozen? p :=
  World.frozen?_of_block (w := w) (h.block p.block hp hs)
end

/-! ### a slice that reads as cells -/
theorem block_of_add (a : Addr) (n : Nat) : (a.add n).block = a.block := by unfold Addr.add; split <;> rfl
theorem add_of_add (a : Addr) (i j : Nat) : (a.add i).add j = a.add (i + j) := by
  unfold Addr.add
  by_cases hi : i = 0 <;> by_cases hj : j = 0 <;> simp [hi, hj, Nat.add_assoc]

/-- The slice '.slice A n c' holds the cells xs (size cells an element), in blocks of S. -/
def Sl (w : World) (S : Nat → Prop) (size : Nat) (A : Option Addr) (n : Nat) (xs : List Value) : Prop :=
  xs.length = n * size ∧ (0 < n → ∃ ad, A = some ad ∧ S ad.block ∧ ∀ j u, xs[j]? = some u → w.cell? (ad.add j) = some u)

section
variable {S S' : Nat → Prop} {w w' : World} {size n : Nat} {A : Option Addr} {xs : List Value}
theorem Sl.nil (w : World) (S : Nat → Prop) (size : Nat) (A : Option Addr) : Sl w S size A 0 [] := ⟨by simp, fun h => absurd h (by omega)⟩
theorem Sl.at_ {k : Nat} (h : Sl w S 1 A n xs) (hk : k < n) : ∃ ad u, A = some ad ∧ S ad.block ∧ xs[k]? = some u ∧ w.cell? (ad.add k) = some u := by
  obtain ⟨ad, e, hb, hc⟩ := h.2 (by omega)
  have hl : k < xs.length := by have := h.1; omega
  exact ⟨ad, xs[k], e, hb, List.getElem?_eq_getElem hl, hc k _ (List.getElem?_eq_getElem hl)⟩
theorem Sl.keep (h : Sl w S size A n xs) (hk : Same S w w') : Sl w' S size A n xs :=
  ⟨h.1, fun hn => by
    obtain ⟨ad, e, hb, hc⟩ := h.2 hn
    exact ⟨ad, e, hb, fun j u hu => hk.cell (by rw [block_of_add]; exact hb) (hc j u hu)⟩⟩
theorem Sl.mono (h : Sl w S size A n xs) (hs : ∀ k, k < w.heap.size → S k → S' k) (hz : 0 < size := by omega) : Sl w S' size A n xs :=
  ⟨h.1, fun hn => by
    obtain ⟨ad, e, hb, hc⟩ := h.2 hn
    have hl : 0 < xs.length := by rw [h.1]; exact Nat.mul_pos hn hz
    have := World.block_lt_of_cell? w (ad.add 0) (hc 0 _ (List.getElem?_eq_getElem hl))
    exact ⟨ad, e, hs _ (by rw [block_of_add] at this; exact this) hb, hc⟩⟩
theorem Sl.cut (h : Sl w S size A n xs) {k cap : Nat} (hk : k ≤ n) (hc : n ≤ cap) :
    Sl w S size (if cap = k then A else A.map (·.add (k * size))) (n - k) (xs.drop (k * size)) := by
  refine ⟨by rw [List.length_drop, h.1, Nat.sub_mul], fun hn => ?_⟩
  obtain ⟨ad, rfl, hb, hcell⟩ := h.2 (by omega)
  rw [if_neg (by omega)]
  refine ⟨ad.add (k * size), rfl, by rw [block_of_add]; exact hb, fun j u hu => ?_⟩
  rw [add_of_add]
  exact hcell _ u (by rw [← hu, List.getElem?_drop])
theorem Sl.take (h : Sl w S size A n xs) {k : Nat} (hk : k ≤ n) : Sl w S size A k (xs.take (k * size)) := by
  refine ⟨by rw [List.length_take, h.1, Nat.min_eq_left (Nat.mul_le_mul_right _ hk)], fun hn => ?_⟩
  obtain ⟨ad, e, hb, hcell⟩ := h.2 (by omega)
  exact ⟨ad, e, hb, fun j u hu => hcell j u (by rw [List.getElem?_take] at hu; split at hu <;> simp_all)⟩
theorem Sl.of_own {base : Nat} {e : TypeId} {c : Nat} (h : w.ownsRow base e size (.slice A n c) n xs) : Sl w (fun k => some k = (Value.slice A n c).ownBlock) size A n xs := by
  refine ⟨h.1, fun hn => ?_⟩
  obtain ⟨g, cap, hv, _, hlt⟩ := h.form hn
  have hA : A = some ⟨g, 0, none⟩ := by injection hv
  subst hA
  exact ⟨_, rfl, rfl, h.cells (g := g) rfl⟩
end

/-! ### bytes -/
abbrev cs8 (bs : List UInt8) : List Value := bs.map V8
/-- The slice value v reads as the bytes bs, in blocks of S. -/
def By (w : World) (S : Nat → Prop) (v : Value) (bs : List UInt8) : Prop :=
  ∃ A c, v = .slice A bs.length c ∧ bs.length ≤ c ∧ c ≤ maxLen ∧ Sl w S 1 A bs.length (cs8 bs)
section
variable {S S' : Nat → Prop} {w w' : World} {v : Value} {bs : List UInt8}
theorem By.keep (h : By w S v bs) (hk : Same S w w') : By w' S v bs := by
  obtain ⟨A, c, rfl, hc, hm, hs⟩ := h
  exact ⟨A, c, rfl, hc, hm, hs.keep hk⟩
theorem By.mono (h : By w S v bs) (hs : ∀ k, k < w.heap.size → S k → S' k) : By w S' v bs := by
  obtain ⟨A, c, rfl, hc, hm, h2⟩ := h
  exact ⟨A, c, rfl, hc, hm, h2.mono hs⟩
theorem By.keepAll (h : By w S v bs) (hk : Same (fun _ => True) w w') : By w' S v bs := h.keep (hk.mono fun _ _ _ => trivial)
end

/-- The cells vs read as a list of byte slices. -/
def ByL (w : World) (S : Nat → Prop) (v : Value) (l : List (List UInt8)) : Prop :=
  ∃ A c vs, v = .slice A l.length c ∧ l.length ≤ c ∧ c ≤ maxLen ∧ Sl w S 1 A l.length vs ∧ ∀ (i : Nat) (u : Value) (x : List UInt8), vs[i]? = some u → l[i]? = some x → By w S u x
section
variable {S S' : Nat → Prop} {w w' : World} {v : Value} {l : List (List UInt8)}
theorem ByL.keep (h : ByL w S v l) (hk : Same S w w') : ByL w' S v l := by
  obtain ⟨A, c, vs, rfl, hc, hm, hs, he⟩ := h
  exact ⟨A, c, vs, rfl, hc, hm, hs.keep hk, fun i u x hu hx => (he i u x hu hx).keep hk⟩
theorem ByL.mono (h : ByL w S v l) (hs : ∀ k, k < w.heap.size → S k → S' k) : ByL w S' v l := by
  obtain ⟨A, c, vs, rfl, hc, hm, h2, he⟩ := h
  exact ⟨A, c, vs, rfl, hc, hm, h2.mono hs, fun i u x hu hx => (he i u x hu hx).mono hs⟩
theorem ByL.keepAll (h : ByL w S v l) (hk : Same (fun _ => True) w w') : ByL w' S v l := h.keep (hk.mono fun _ _ _ => trivial)
end

theorem heap_old {w : World} {o x : Obj} {k : Nat} (h : w.heap[k]? = some x) : (w.alloc o).heap[k]? = some x :=
  (heap_alloc_old w o (Array.getElem?_eq_some_iff.1 h).1).trans h
theorem heap_now {w : World} {o : Obj} {k : Nat} (h : k = w.heap.size) : (w.alloc o).heap[k]? = some o := by subst h; exact heap_alloc_new w o

/-! ### rows: a block of cells known whole -/
def Row (w : World) (g : Nat) (e : TypeId) (xs : List Value) : Prop := w.heap[g]? = some (.cells xs.toArray e (0, 0))
section
variable {S : Nat → Prop} {w w' : World} {g : Nat} {e : TypeId} {xs : List Value}
theorem Row.lt (h : Row w g e xs) : g < w.heap.size := by
  rcases Nat.lt_or_ge g w.heap.size with hlt | hge
  · exact hlt
  · unfold Row at h; rw [Array.getElem?_eq_none hge] at h; cases h
theorem Row.cell (h : Row w g e xs) (i : Nat) : w.cell? ⟨g, i, none⟩ = xs[i]? := by
  rw [cell_of_row w g i _ e (0, 0) h]; simp
theorem Row.frozen (h : Row w g e xs) (i : Nat) : w.frozen? ⟨g, i, none⟩ = false := by
  unfold Row at h
  simp [World.frozen?, h]
theorem Row.new (w : World) (e : TypeId) (xs : List Value) : Row (w.alloc (.cells xs.toArray e)) w.heap.size e xs := heap_alloc_new w _
theorem Row.keep (h : Row w g e xs) (hk : Same S w w') (hs : S g) : Row w' g e xs := (hk.block g h.lt hs).trans h
theorem Row.set_ (h : Row w g e xs) (i : Nat) (u : Value) : Row (w.setCell ⟨g, i, none⟩ u) g e (xs.set i u) := by
  unfold Row at h ⊢
  simp [World.setCell, Array.getElem?_modify, h]
theorem Row.ne {g' : Nat} {e' : TypeId} {xs' : List Value} (h : Row w g e xs) (h' : Row w g' e' xs') (hne : e ≠ e') : g ≠ g' := by
  rintro rfl
  unfold Row at h h'
  rw [h] at h'
  injection h' with h'
  injection h' with _ ht
  exact hne ht
theorem Row.sl (h : Row w g e xs) {size off n : Nat} (hn : off + n * size ≤ xs.length) : Sl w (fun k => k = g) size (some ⟨g, off, none⟩) n ((xs.drop off).take (n * size)) := by
  refine ⟨by simp; omega, fun _ => ⟨_, rfl, rfl, fun j u hu => ?_⟩⟩
  have e0 : (⟨g, off, none⟩ : Addr).add j = ⟨g, off + j, none⟩ := by unfold Addr.add; split <;> simp_all
  rw [e0, h.cell]
  rw [List.getElem?_take] at hu
  split at hu
  · simpa using hu
  · simp at hu
theorem Row.owns (h : Row w g e xs) {base size n cap : Nat} (hb : base ≤ g) (hc : xs.length = cap * size) (hn : n ≤ cap) (hm : cap ≤ maxLen) :
    w.ownsRow base e size (.slice (some ⟨g, 0, none⟩) n cap) n (xs.take (n * size)) :=
  ⟨by rw [List.length_take, hc, Nat.min_eq_left (Nat.mul_le_mul_right _ hn)], .inr ⟨g, cap, xs.toArray, rfl, hb, h, hn, hm, by simpa using hc, rfl⟩⟩
end
theorem ownsRow_row {w : World} {base : Nat} {e : TypeId} {size : Nat} {v : Value} {n : Nat} {xs : List Value} (h : w.ownsRow base e size v n xs) :
    (v = .slice none 0 0 ∧ n = 0 ∧ xs = []) ∨ ∃ g cap cur, v = .slice (some ⟨g, 0, none⟩) n cap ∧ base ≤ g ∧ Row w g e cur ∧ n ≤ cap ∧ cap ≤ maxLen ∧ cur.length = cap * size ∧ cur.take (n * size) = xs := by
  rcases h.2 with ⟨h1, h2⟩ | ⟨g, cap, cur, h1, h2, h3, h4, h5, h6, h7⟩
  · refine .inl ⟨h1, h2, ?_⟩
    apply List.eq_nil_of_length_eq_zero; rw [h.1, h2]; simp
  · exact .inr ⟨g, cap, cur.toList, h1, h2, by simpa [Row] using h3, h4, h5, by simpa using h6, h7⟩

theorem own_keep {S : Nat → Prop} {w w' : World} {base : Nat} {e : TypeId} {size : Nat} {v : Value} {n : Nat} {xs : List Value} (h : w.ownsRow base e size v n xs) (hk : Same S w w') (hs : ∀ k, v.ownBlock = some k → S k) :
    w'.ownsRow base e size v n xs := by
  refine ⟨h.1, ?_⟩
  rcases h.2 with hn | ⟨g, cap, cur, rfl, hb, hgg, rest⟩
  · exact .inl hn
  · refine .inr ⟨g, cap, cur, rfl, hb, ?_, rest⟩
    rw [hk.block g (Array.getElem?_eq_some_iff.1 hgg).1 (hs g rfl)]
    exact hgg
theorem own_keepAll {w w' : World} {base : Nat} {e : TypeId} {size : Nat} {v : Value} {n : Nat} {xs : List Value} (h : w.ownsRow base e size v n xs) (hk : Same (fun _ => True) w w') :
    w'.ownsRow base e size v n xs := own_keep h hk fun _ _ => trivial

/-! ### slice types and the laws of make, append, copy -/
structure SlT (P : Program) (t e : TypeId) (size bytes : Nat) (z : Value) : Prop where
  und : P.underlying t = some (.slice e)
  info : (P.info? e).map (fun i => (i.zero, i.size, i.bytes)) = some (some z, size, bytes)
  zs : z.cells.size = size
  pos : 0 < size

section
variable {P : Program} {t e : TypeId} {size bytes : Nat} {z : Value}
theorem wpList_mk (T : SlT P t e size bytes z) (w : World) {ops : Array Oper} {rest : List Oper} {o : Oper} {a : Act} {Q : Exit → Act → World → Prop}
    (hg : o.guard = none) (l c : Operand) (hop : o.op = Op.makeSlice t l c)
    (kl kc : IntKind) (L C : Int) (n : Nat) (hl : a.eval l = .int kl L) (hc : a.eval c = .int kc C) (hL : L = (n : Int)) (hC : C = (n : Int)) (b2 : bytes * n ≤ 281474976710656) (b3 : n ≤ maxLen)
    (hK : ∀ w', Row w' w.heap.size e (madeCells z.cells (n * size)).toList → Same (fun _ => True) w w' → w.heap.size < w'.heap.size → wpList P ops Q rest (a.put o.dst (.slice (some ⟨w.heap.size, 0, none⟩) n n)) w') :
    wpList P ops Q (o :: rest) a w := by
  obtain ⟨i, h2, h3, h4, h5⟩ := info_parts T.info
  refine wpList_plain hg fun K hK' => ?_
  subst hL hC
  have h63' : (n : Int) ≤ 9223372036854775807 := by
    have h := b3
    simp [maxLen] at h
    omega
  have hb' : (i.bytes : Int) * (n : Int) ≤ 281474976710656 := by
    have h : ((i.bytes * n : Nat) : Int) ≤ 281474976710656 := by rw [h5]; omega
    rwa [Int.natCast_mul] at h
  have hr := run_make (P := P) w t e i z T.und h2 h3 kl kc n n (by omega) (Int.le_refl _) hb' h63'
  simp only [Int.toNat_natCast] at hr
  unfold Oper.wp
  simp [execOp, hop, hl, hc, hr, Result.andThen]
  refine hK' _ _ (hK _ ?_ ((Same.refl _ _).alloc _) (by simp))
  rw [h4]
  have := Row.new w e (madeCells z.cells (n * size)).toList
  rwa [Array.toArray_toList] at this

theorem wpList_app (T : SlT P t e size bytes z) (w : World) {ops : Array Oper} {rest : List Oper} {o : Oper} {a : Act} {Q : Exit → Act → World → Prop} (hgd : o.guard = none) (s x : Operand)
    (ho : o.op = .call { callee := .builtin .append, args := #[s, x], argTypes := #[t, t] })
    (base : Nat) (v : Value) (n : Nat) (xs : List Value) (hs : a.eval s = v) (hown : w.ownsRow base e size v n xs)
    (S : Nat → Prop) (A : Option Addr) (m c : Nat) (news : List Value) (hx : a.eval x = .slice A m c) (hr : Sl w S size A m news) (h1 : ∀ u ∈ news, u.oneCell' = true)
    (h63 : n + m ≤ maxLen) (hbytes : (n + m) * bytes ≤ 140737488355328) (hbase : base ≤ w.heap.size)
    (h : ∀ v' w', w'.ownsRow base e size v' (n + m) (xs ++ news) → Same (fun k => some k ≠ v.ownBlock) w w' → (v'.ownBlock = v.ownBlock ∨ v'.ownBlock = some w.heap.size) → wpList P ops Q rest (a.put o.dst v') w') : wpList P ops Q (o :: rest) a w := by
  obtain ⟨i, hi, hz, h4, h5⟩ := info_parts T.info
  have key : ∃ v' w', (Builtin.append_ #[t, t] o.type #[v, .slice A m c]).run P w = .ok v' w' ∧ w'.ownsRow base e size v' (n + m) (xs ++ news) ∧ w.grownBy w' v.ownBlock ∧
      (v'.ownBlock = v.ownBlock ∨ v'.ownBlock = some w.heap.size) := by
    rcases A with _ | ad
    · have hm : m = 0 := by
        rcases Nat.eq_zero_or_pos m with h0 | h0
        · exact h0
        · obtain ⟨ad, h, _⟩ := hr.2 h0
          cases h
      subst hm
      have hn : news = [] := List.eq_nil_of_length_eq_zero (by simpa using hr.1)
      subst hn
      refine ⟨v, w, ?_, by simpa using hown, World.grownBy.refl w _, .inl rfl⟩
      rcases hown.2 with ⟨rfl, rfl⟩ | ⟨g, cap, cur, rfl, _, _, hnc, _⟩
      · simp [Builtin.append_, run_underlying T.und, sizeOf, typeInfo, hi, Builtin.lenOf, Builtin.firstCells]
      · simp [Builtin.append_, run_underlying T.und, sizeOf, typeInfo, hi, Builtin.lenOf, Builtin.firstCells, hnc, storeCells]
    · have hcells : ∀ j u, news[j]? = some u → w.cell? (ad.add j) = some u := by
        intro j u hu
        rcases Nat.eq_zero_or_pos m with h0 | h0
        · subst h0
          have hn : news = [] := List.eq_nil_of_length_eq_zero (by simpa using hr.1)
          subst hn
          simp at hu
        · obtain ⟨ad', h, _, hc⟩ := hr.2 h0
          injection h with h
          subst h
          exact hc j u hu
      obtain ⟨v', w', hrun, h2, h3, _, h5⟩ := run_append_own_at (P := P) w base t o.type e i z size bytes T.und hi hz h4 h5 T.zs T.pos v n xs hown ad m c news hr.1 hcells h1 h63 hbytes hbase
      exact ⟨v', w', hrun, h2, h3, h5⟩
  obtain ⟨v', w', hrun, h2, h3, h4⟩ := key
  refine wpList_plain hgd fun K hK => ?_
  unfold Oper.wp execOp
  simp only [ho, resolve, invoke, builtin, Sem.run_bind, Sem.run_pure, Result.andThen_ok, List.map_toArray, List.map_cons, List.map_nil, hs, hx, hrun]
  exact hK _ _ (h v' w' h2 (Same.ofGrown h3) h4)

/-- A guard: the operation is a copy. -/
theorem stopCopy {w : World} {ops : Array Oper} {rest : List Oper} {o : Oper} {a : Act} {Q : Exit → Act → World → Prop} {args : Array Operand} {ts : Array TypeId}
    (_ho : o.op = .call { callee := .builtin .copy, args := args, argTypes := ts }) (h : Hid (wpList P ops Q (o :: rest) a w)) : wpList P ops Q (o :: rest) a w := h

theorem wpList_cp (T : SlT P t e 1 bytes z) (w : World) {ops : Array Oper} {rest : List Oper} {o : Oper} {a : Act} {Q : Exit → Act → World → Prop} (hgd : o.guard = none) (d s : Operand)
    (ho : o.op = .call { callee := .builtin .copy, args := #[d, s], argTypes := #[t, t] })
    (g off dLen dCap sLen sCap : Nat) (sp : Option Addr) (hd : a.eval d = .slice (some ⟨g, off, none⟩) dLen dCap) (hs : a.eval s = .slice sp sLen sCap)
    (cur : List Value) (u : TypeId) (hg : Row w g u cur) (S : Nat → Prop) (cs : List Value) (hsl : Sl w S 1 sp sLen cs) (hle : sLen ≤ dLen) (hfit : off + sLen ≤ cur.length) (h1 : ∀ v ∈ cs, v.oneCell' = true)
    (h : ∀ w', Row w' g u (cur.take off ++ (cs ++ cur.drop (off + sLen))) → Same (fun k => k ≠ g) w w' → wpList P ops Q rest (a.put o.dst (goInt sLen)) w') : wpList P ops Q (o :: rest) a w := by
  obtain ⟨i, hi, hz, h4, h5⟩ := info_parts T.info
  have hsz : (P.info? e).map (·.size) = some 1 := by rw [hi]; simp [h4]
  have hl : cs.length = sLen := by rw [hsl.1]; omega
  rcases Nat.eq_zero_or_pos sLen with h0 | h0
  · subst h0
    have hn : cs = [] := List.eq_nil_of_length_eq_zero hl
    subst hn
    refine wpList_copy_nothing hgd d s t t ho e T.und hsz _ _ dLen dCap 0 sCap hd hs (by simp) ?_
    exact h w (by simpa using hg) (Same.refl _ _)
  · obtain ⟨ad, rfl, _, hc⟩ := hsl.2 h0
    refine wpList_copy_own hgd d s t t ho e T.und hsz g off dLen dCap ad sLen sCap hd hs cur.toArray u hg cs (by rw [hl]; exact (Nat.min_eq_left hle).symm) hc (by simp; omega) h1 ?_
    rw [hl]
    refine h _ ?_ ⟨rfl, rfl, rfl, by simp [World.setRow], fun k _ hk => setRow_other w g k _ hk⟩
    have := setRow_heap w g cur.toArray (cur.take off ++ (cs ++ cur.drop (off + sLen))).toArray u (0, 0) hg
    simpa [Row] using this
end

theorem oneCell8 (bs : List UInt8) : ∀ u ∈ cs8 bs, u.oneCell' = true := by
  intro u hu
  simp only [cs8, List.mem_map] at hu
  obtain ⟨b, _, rfl⟩ := hu
  rfl

/-! ### strings -/
/-- The string of these bytes. -/
def str (bs : List UInt8) : ByteArray := ⟨bs.toArray⟩
theorem str_size (bs : List UInt8) : (str bs).size = bs.length := by simp [str, ByteArray.size]
theorem str_inj {a b : List UInt8} : str a = str b ↔ a = b := by simp [str]
theorem str_beq (a b : List UInt8) : (str a == str b) = (a == b) := by
  show (a.toArray == b.toArray) = _
  simp
theorem str_get (s : ByteArray) : s = str s.data.toList := by simp [str]

theorem conv_str {P : Program} {w : World} {S : Nat → Prop} {A : Option Addr} {bs : List UInt8} (c : Nat) (src dst e : TypeId)
    (hs : P.underlying src = some (.slice e)) (he : P.underlying e = some (.int .u8)) (hd : P.underlying dst = some .string) (h : Sl w S 1 A bs.length (cs8 bs)) :
    (convert src dst (.slice A bs.length c)).run P w = .ok (.string (str bs)) w := by
  rw [run_convert_bytes_string w src dst e A _ c hs he hd]
  rcases A with _ | ad
  · have hb : bs = [] := by
      cases bs with
      | nil => rfl
      | cons b bs => obtain ⟨ad, h, _⟩ := h.2 (by simp); cases h
    subst hb
    rfl
  · have hc : ∀ j u, (cs8 bs)[j]? = some u → w.cell? (ad.add j) = some u := by
      intro j u hu
      cases hb : bs with
      | nil => subst hb; simp [cs8] at hu
      | cons b bs' =>
        obtain ⟨ad', h1, _, h2⟩ := h.2 (by rw [hb]; simp)
        injection h1 with h1
        subst h1
        exact h2 j u hu
    have hl := run_loadCells_list (P := P) w ad (cs8 bs) hc
    have e1 : cs8 bs = (bs.map n8).map (Value.int .u8) := by simp [cs8]
    rw [show (cs8 bs).length = bs.length from by simp [cs8], e1] at hl
    rw [run_bytesToString w ad bs.length c (bs.map n8) hl, foldl_push_bytes]
    have e2 : (bs.map n8).map (fun n => UInt8.ofNat n.toNat) = bs := by
      rw [List.map_map]
      conv => rhs; rw [← List.map_id bs]
      apply List.map_congr_left
      intro b _
      simp [n8]
    rw [e2]
    simp [str]

/-! ### from a reading of an argument -/
section
variable {H : Type} {enc : TypeId × Value → H} {P : Program} {W : World}
theorem u8_of_wf {n : Int} (h : (Lit.int .u8 n).wf = true) : n = n8 (UInt8.ofNat n.toNat) := by
  simp [Lit.wf, IntKind.min, IntKind.max, IntKind.signed, IntKind.bits] at h
  unfold n8
  rw [UInt8.toNat_ofNat']
  omega
theorem u32_of_wf {n : Int} (h : (Lit.int .u32 n).wf = true) : n = n32 (UInt32.ofNat n.toNat) := by
  simp [Lit.wf, IntKind.min, IntKind.max, IntKind.signed, IntKind.bits] at h
  unfold n32
  rw [UInt32.toNat_ofNat']
  omega
theorem i64_of_wf {n : Int} (h : (Lit.int .i64 n).wf = true) : -9223372036854775808 ≤ n ∧ n ≤ 9223372036854775807 := by
  simp [Lit.wf, IntKind.min, IntKind.max, IntKind.signed, IntKind.bits] at h
  omega
theorem By.ofTrod {t e : TypeId} {fuel : Nat} {cs : List Value} {x : DataW H × List MemPlace} (ht : P.underlying t = some (.slice e)) (he : P.underlying e = some (.int .u8)) (hc : P.cellsOf e = 1)
    (h : DataW.trod enc P W 0 (fun _ => true) true fuel t cs = some x) : ∃ v bs, cs = [v] ∧ By W (· < W.heap.size) v bs := by
  have hlt := DataW.trod_lt _ _ _ _ h
  rcases open_ints ht he hc h with ⟨rfl, _⟩ | ⟨a, len, cap, zs, rfl, _, hl, hm, hz, rfl, hcell, hwz⟩
  · exact ⟨_, [], rfl, none, 0, rfl, Nat.le_refl _, by simp [maxLen], Sl.nil _ _ _ _⟩
  · simp only [if_true] at hz
    refine ⟨_, (zs.take len).map fun n => UInt8.ofNat n.toNat, rfl, some a, cap, ?_, ?_, hm, by simp, fun hn => ⟨a, rfl, ?_, fun j u hu => ?_⟩⟩
    · have e : ((zs.take len).map fun n => UInt8.ofNat n.toNat).length = len := by simp; omega
      rw [e]
    · simp; omega
    · have : 0 < zs.length := by simp at hn; omega
      have hb := World.block_lt_of_cell? W _ (hcell 0 this)
      rw [block_of_add] at hb
      exact hb
    · simp only [cs8, List.map_map, List.getElem?_map, List.getElem?_take] at hu
      split at hu
      · rename_i hj
        have hj' : j < zs.length := by omega
        rw [List.getElem?_eq_getElem hj'] at hu
        simp at hu
        subst hu
        have hw := u8_of_wf (hwz _ (List.getElem_mem hj'))
        have hg : zs.getD j 0 = zs[j] := by simp [List.getD, List.getElem?_eq_getElem hj']
        rw [hcell j hj', hg]
        exact congrArg (fun z => some (Value.int .u8 z)) hw
      · simp at hu
theorem cells_one {a : Addr} {v : Value} (h : W.cells? 0 a 1 = some [v]) : W.cell? a = some v := by
  have e : a.add 0 = a := by simp [Addr.add]
  simp only [World.cells?, Nat.zero_le, if_true, List.range_succ, List.range_zero, List.nil_append, List.mapM_cons, List.mapM_nil, e] at h
  cases hc : W.cell? a with
  | none => rw [hc] at h; simp at h
  | some u => rw [hc] at h; simp at h; rw [h]
theorem ByL.ofTrod {t e b : TypeId} {fuel : Nat} {cs : List Value} {x : DataW H × List MemPlace} (ht : P.underlying t = some (.slice e)) (he : P.underlying e = some (.slice b)) (hb : P.underlying b = some (.int .u8)) (hce : P.cellsOf e = 1) (hcb : P.cellsOf b = 1)
    (h : DataW.trod enc P W 0 (fun _ => true) true fuel t cs = some x) : ∃ v l, cs = [v] ∧ ByL W (· < W.heap.size) v l := by
  rcases Go.Deep.open_slice ht h with ⟨rfl, _⟩ | ⟨a, len, cap, m, n, D, Pl, rfl, _, hl, hm, hmm, rfl, hel⟩
  · exact ⟨_, [], rfl, none, 0, [], rfl, Nat.le_refl _, by simp [maxLen], Sl.nil _ _ _ _, fun i u x hu hx => by simp at hu⟩
  · simp only [if_true] at hmm
    subst hmm
    have each : ∀ i, i < len → ∃ p : Value × List UInt8, W.cell? (a.add i) = some p.1 ∧ By W (· < W.heap.size) p.1 p.2 := by
      intro i hi
      obtain ⟨cs', hcs, htr⟩ := hel i (by omega)
      obtain ⟨v, bs, rfl, hby⟩ := By.ofTrod he hb hcb htr
      refine ⟨(v, bs), ?_, hby⟩
      rw [hce, Nat.mul_one] at hcs
      exact cells_one hcs
    obtain ⟨F, hF⟩ := Go.Deep.choose_lt each
    refine ⟨_, (List.range len).map fun i => (F i).2, rfl, some a, m, (List.range len).map fun i => (F i).1, by simp, by simpa using hl, hm, ⟨by simp, fun hn => ⟨a, rfl, ?_, fun j u hu => ?_⟩⟩, fun i u x hu hx => ?_⟩
    · have h0 : 0 < len := by simpa using hn
      have hb := World.block_lt_of_cell? W _ (hF 0 h0).1
      rw [block_of_add] at hb
      exact hb
    · by_cases hj : j < len
      · simp [hj] at hu
        subst hu
        exact (hF j hj).1
      · simp [hj] at hu
    · by_cases hj : i < len
      · simp [hj] at hu hx
        subst hu; subst hx
        exact (hF i hj).2
      · simp [hj] at hu
end

/-! ### the frame that closes a law -/
theorem trodAll_below {H : Type} {enc : TypeId × Value → H} {P : Program} (hl : laidOutB P = true) {W W' : World} (hb : Below W.heap.size W W') :
    ∀ (ts : List TypeId) (vs : List Value) (ds : List (DataW H)) (ps : List MemPlace), (∀ t ∈ ts, P.readableRec t = true ∧ t < P.types.size) →
      DataW.TrodAll enc P W 0 (fun _ => true) true ts vs ds ps → DataW.TrodAll enc P W' 0 (fun b => decide (b < W.heap.size)) true ts vs ds ps
  | [], [], [], _, _, h => h
  | t :: ts, v :: vs, d :: ds, _, hr, ⟨p, q, h0, h1, e⟩ =>
    ⟨p, q, Below.trod hl (hr t (by simp)).1 (hr t (by simp)).2 h0 hb (by obtain ⟨m, hm⟩ := h0; exact DataW.trod_lt m _ _ _ hm), trodAll_below hl hb ts vs ds q (fun t ht => hr t (by simp [ht])) h1, e⟩
  | [], [], _ :: _, _, _, h => h.elim
  | [], _ :: _, _, _, _, h => h.elim
  | _ :: _, [], _, _, _, h => h.elim
  | _ :: _, _ :: _, [], _, _, h => h.elim

theorem trodAll_length {H : Type} {enc : TypeId × Value → H} {P : Program} {W : World} {base : Nat} {sp : Nat → Bool} {held : Bool} :
    ∀ (ts : List TypeId) (vs : List Value) (ds : List (DataW H)) (ps : List MemPlace), DataW.TrodAll enc P W base sp held ts vs ds ps → ts.length = vs.length ∧ ts.length = ds.length
  | [], [], [], _, _ => ⟨rfl, rfl⟩
  | _ :: ts, _ :: vs, _ :: ds, _, ⟨_, q, _, h1, _⟩ => by
    obtain ⟨a, b⟩ := trodAll_length ts vs ds q h1
    simp [a.symm, b.symm]
  | [], [], _ :: _, _, h => h.elim
  | [], _ :: _, _, _, h => h.elim
  | _ :: _, [], _, _, h => h.elim
  | _ :: _, _ :: _, [], _, h => h.elim

/-- What a law's walk has to show. -/
def LawWalk (P : Program) (f : FuncId) (fn : Func) (H : Type) (enc : TypeId × Value → H) : Prop :=
  ∀ (W : World) (base : Nat) (args : List Value) (ds : List (DataW H)) (ps : List MemPlace),
    (∀ (j : Nat) (t : TypeId) (v : Value), fn.params[j]? = some t → args[j]? = some v → Value.okWide P W .any base t v) →
    DataW.TrodAll enc P W 0 (fun _ => true) true fn.params.toList args ds ps →
    Calls P f args.toArray W fun e W' => e = .returned (.bool true) ∧ Same (fun _ => True) W W'

theorem law_lift {C : Checked} {os : Os} {H : Type} {enc : TypeId × Value → H} (f : FuncId) (fn : Func) (s : ChangeSpec) {conds : List PathCond} (started : os.Started)
    (own : ownKnob C.prog.godebug = none) (laid : laidOutB C.prog = true) (noInit : C.prog.inits.idxOf? f = none) (hfn : C.prog.funcs[f]? = some fn)
    (tb : TypeId) (hres : fn.resultTypes = #[tb]) (hbool : C.prog.underlying tb = some .bool) (hvars : s.vars = [])
    (hspec : ∀ ds : List (DataW H), ds.length = fn.params.size → s.fn H ds = { results := [.lit (.bool true)], args := ds })
    (hread : fn.params.toList.all (fun t => C.prog.readableRec t && decide (t < C.prog.types.size)) = true)
    (witness : ∃ (w : World) (tape : Tape) (i : Input), w.os = os ∧ (w.forCall tape i).Shaped C.prog ∧ i.vars = [] ∧ Input.okWide C.prog (w.forCall tape i) .any w.heap.size f i ∧
      s.pre6 enc C.prog fn conds false (w.forCall tape i).memory i.args ∧ ({} : Assume).holds C.prog (lone (Frame.enter C.prog f i.args .normal) [] (w.forCall tape i)))
    (walk : LawWalk C.prog f fn H enc) :
    ReturnsInHanded {} C os f .any (s.pre6 enc C.prog fn conds false) (s.post enc C.prog fn false true false false) := by
  refine returnsInHanded_of_change own started noInit hfn witness ?_
  intro W base args ds gs before hval hW hcnd _
  have hW' := hW
  obtain ⟨p, q, hA, hV, rfl, hfz, hnd⟩ := hW
  rw [hvars] at hV
  obtain ⟨rfl, rfl⟩ := trodVars_none hV
  have hall : ∀ t ∈ fn.params.toList, C.prog.readableRec t = true ∧ t < C.prog.types.size := fun t ht => by
    have := List.all_eq_true.1 hread t ht
    simpa using this
  have hlen := trodAll_length _ _ _ _ hA
  refine (walk W base args.toList ds p (fun j t v hj hv => hval j t v hj (by simpa using hv)) hA).mono fun e W' ⟨he, hS⟩ => ?_
  have bel : Below W.heap.size W W' := hS.below (Nat.le_refl _) (fun _ _ => trivial)
  subst he
  have hd : (ds ++ []).length = fn.params.size := by have := hlen.2; simp at this ⊢; omega
  refine ⟨_, rfl, ds, [], _, [], p, [], hW', ?_, ?_, ?_, bel.frame _, fun h => by cases h⟩
  · rw [hspec _ hd, hres]
    exact trodAll_mk1 (shut_bool hbool _)
  · rw [hspec _ hd]
    simpa using trodAll_below laid bel _ _ _ _ hall hA
  · rw [hvars, hspec _ hd]
    rfl
end Go.Proofs.YtpbekhcogpkbpaaDoor
