/-
  Words, plain models, laws and walks that the claims of this layer share (joined by shake.py). No condition.
-/
import Derived.WalkKit
import Derived.WalkSpells
import Derived.WalkLawsBesides
import Derived.ProofKit
import Derived.OpenShut
import Derived.ChangeOld
import Derived.Below
import Derived.Carry
import Derived.Deep.Slices
import Derived.Maps.AppendAt
import Derived.Deep.AppendLies
import Derived.RegionTactic
import Derived.OwnWalk
import Derived.Lib.Hide
import Derived.Laws.CopyOwn
import Derived.Laws.BytesArg
import Derived.Laws.IdiomStrings
import Derived.Test.YtoldelocfmpccaaRows
import Derived.Outline
import Derived.Shelf.Small.Strs
import Derived.Test.YtoldelocfmpccaaProg
import Derived.Deep.QuietTactic
import Derived.BigQuiet
import Derived.Deep.RegionHeld3
set_option linter.unusedSimpArgs false
set_option linter.unusedVariables false
namespace Go.Proofs.Ytoldelocfmpccaa
open Go.RowKit Go.ChangeShapes Go.WideShapes Go.ChangeAt
def n8 (c : UInt8) : Int := c.toNat
abbrev V8 (c : UInt8) : Value := .int .u8 (n8 c)
/-- Lets a walk stand still, to look at it. -/
theorem stopAt {p : Prop} (h : Hid p) : p := h
structure Same (S : Nat → Prop) (w w' : World) : Prop where
  os : w'.os = w.os
  tape : w'.tape = w.tape
  output : w'.output = w.output
  size : w.heap.size ≤ w'.heap.size
  block : ∀ k, k < w.heap.size → S k → w'.heap[k]? = w.heap[k]?
section
variable {S S' : Nat → Prop} {w w' w'' : World}
theorem Same.refl (S : Nat → Prop) (w : World) : Same S w w := ⟨rfl, rfl, rfl, Nat.le_refl _, fun _ _ _ => rfl⟩
theorem Same.trans (h : Same S w w') (k : Same S w' w'') : Same S w w'' :=
  ⟨k.os.trans h.os, k.tape.trans h.tape, k.output.trans h.output, Nat.le_trans h.size k.size, fun i hi hs => (k.block i (Nat.lt_of_lt_of_le hi h.size) hs).trans (h.block i hi hs)⟩
/-- The second step may write whatever is new since w. -/
theorem Same.trans' (h : Same S w w') (k : Same S' w' w'') (hs : ∀ i, i < w.heap.size → S i → S' i) : Same S w w'' :=
  ⟨k.os.trans h.os, k.tape.trans h.tape, k.output.trans h.output, Nat.le_trans h.size k.size, fun i hi hS => (k.block i (Nat.lt_of_lt_of_le hi h.size) (hs i hi hS)).trans (h.block i hi hS)⟩
theorem Same.mono (h : Same S w w') (hs : ∀ i, i < w.heap.size → S' i → S i) : Same S' w w' := ⟨h.os, h.tape, h.output, h.size, fun i hi hS => h.block i hi (hs i hi hS)⟩
theorem Same.ofGrown {row : Option Nat} (h : w.grownBy w' row) : Same (fun k => some k ≠ row) w w' := ⟨h.os, h.tape, h.output, h.size, fun i hi hs => h.block i hi hs⟩
theorem Same.drew (h : Same S w w') : Same S w w'.drew := ⟨h.os, h.tape, h.output, h.size, h.block⟩
theorem Same.drewN (h : Same S w w') (n : Nat) : Same S w (w'.drewN n) := ⟨h.os, h.tape, h.output, h.size, h.block⟩
theorem Same.alloc (h : Same S w w') (o : Obj) : Same S w (w'.alloc o) :=
  h.trans ⟨rfl, rfl, rfl, by simp, fun k hk _ => Below.heap_alloc _ _ _ hk⟩
theorem Same.setCell (h : Same S w w') {p : Addr} (hp : p.block < w.heap.size → ¬ S p.block) (u : Value) : Same S w (w'.setCell p u) :=
  ⟨h.os, h.tape, h.output, by have := h.size; simpa [World.setCell] using this, fun k hk hs => by
    rw [Below.heap_setCell _ _ _ _ (fun e => hp (e ▸ hk) (e ▸ hs))]; exact h.block k hk hs⟩
theorem Same.cell (h : Same S w w') {p : Addr} {v : Value} (hs : S p.block) (hc : w.cell? p = some v) : w'.cell? p = some v := by
  rw [World.cell?_of_block (w := w) (h.block p.block (World.block_lt_of_cell? w p hc) hs)]; exact hc
theorem Same.frozen (h : Same S w w') {p : Addr} (hp : p.block < w.heap.size) (hs : S p.block) : w'.frozen? p = w.frozen? p :=
  World.frozen?_of_block (w := w) (h.block p.block hp hs)
end
theorem block_of_add (a : Addr) (n : Nat) : (a.add n).block = a.block := by unfold Addr.add; split <;> rfl
theorem add_of_add (a : Addr) (i j : Nat) : (a.add i).add j = a.add (i + j) := by
  unfold Addr.add
  by_cases hi : i = 0 <;> by_cases hj : j = 0 <;> simp [hi, hj, Nat.add_assoc]
/-- The slice '.slice A n c' holds the cells xs (size cells an element), in blocks of S. -/
def Sl (w : World) (S : Nat → Prop) (size : Nat) (A : Option Addr) (n : Nat) (xs : List Value) : Prop :=
  xs.length = n * size ∧ (0 < n → ∃ ad, A = some ad ∧ S ad.block ∧ ∀ j u, xs[j]? = some u → w.cell? (ad.add j) = some u)
section
variable {S S' : Nat → Prop} {w w' : World} {size n : Nat} {A : Option Addr} {xs : List Value}
theorem Sl.nil (w : World) (S : Nat → Prop) (size : Nat) (A : Option Addr) : Sl w S size A 0 [] := ⟨by simp, fun h => absurd h (by omega)⟩
theorem Sl.at_ {k : Nat} (h : Sl w S 1 A n xs) (hk : k < n) : ∃ ad u, A = some ad ∧ S ad.block ∧ xs[k]? = some u ∧ w.cell? (ad.add k) = some u := by
  obtain ⟨ad, e, hb, hc⟩ := h.2 (by omega)
  have hl : k < xs.length := by have := h.1; omega
  exact ⟨ad, xs[k], e, hb, List.getElem?_eq_getElem hl, hc k _ (List.getElem?_eq_getElem hl)⟩
theorem Sl.keep (h : Sl w S size A n xs) (hk : Same S w w') : Sl w' S size A n xs :=
  ⟨h.1, fun hn => by
    obtain ⟨ad, e, hb, hc⟩ := h.2 hn
    exact ⟨ad, e, hb, fun j u hu => hk.cell (by rw [block_of_add]; exact hb) (hc j u hu)⟩⟩
theorem Sl.mono (h : Sl w S size A n xs) (hs : ∀ k, k < w.heap.size → S k → S' k) (hz : 0 < size := by omega) : Sl w S' size A n xs :=
  ⟨h.1, fun hn => by
    obtain ⟨ad, e, hb, hc⟩ := h.2 hn
    have hl : 0 < xs.length := by rw [h.1]; exact Nat.mul_pos hn hz
    have := World.block_lt_of_cell? w (ad.add 0) (hc 0 _ (List.getElem?_eq_getElem hl))
    exact ⟨ad, e, hs _ (by rw [block_of_add] at this; exact this) hb, hc⟩⟩
theorem Sl.cut (h : Sl w S size A n xs) {k cap : Nat} (hk : k ≤ n) (hc : n ≤ cap) :
    Sl w S size (if cap = k then A else A.map (·.add (k * size))) (n - k) (xs.drop (k * size)) := by
  refine ⟨by rw [List.length_drop, h.1, Nat.sub_mul], fun hn => ?_⟩
  obtain ⟨ad, rfl, hb, hcell⟩ := h.2 (by omega)
  rw [if_neg (by omega)]
  refine ⟨ad.add (k * size), rfl, by rw [block_of_add]; exact hb, fun j u hu => ?_⟩
  rw [add_of_add]
  exact hcell _ u (by rw [← hu, List.getElem?_drop])
theorem Sl.take (h : Sl w S size A n xs) {k : Nat} (hk : k ≤ n) : Sl w S size A k (xs.take (k * size)) := by
  refine ⟨by rw [List.length_take, h.1, Nat.min_eq_left (Nat.mul_le_mul_right _ hk)], fun hn => ?_⟩
  obtain ⟨ad, e, hb, hcell⟩ := h.2 (by omega)
  exact ⟨ad, e, hb, fun j u hu => hcell j u (by rw [List.getElem?_take] at hu; split at hu <;> simp_all)⟩
end
abbrev cs8 (bs : List UInt8) : List Value := bs.map V8
/-- The slice value v reads as the bytes bs, in blocks of S. -/
def By (w : World) (S : Nat → Prop) (v : Value) (bs : List UInt8) : Prop :=
  ∃ A c, v = .slice A bs.length c ∧ bs.length ≤ c ∧ c ≤ maxLen ∧ Sl w S 1 A bs.length (cs8 bs)
section
variable {S S' : Nat → Prop} {w w' : World} {v : Value} {bs : List UInt8}
theorem By.keep (h : By w S v bs) (hk : Same S w w') : By w' S v bs := by
  obtain ⟨A, c, rfl, hc, hm, hs⟩ := h
  exact ⟨A, c, rfl, hc, hm, hs.keep hk⟩
theorem By.mono (h : By w S v bs) (hs : ∀ k, k < w.heap.size → S k → S' k) : By w S' v bs := by
  obtain ⟨A, c, rfl, hc, hm, h2⟩ := h
  exact ⟨A, c, rfl, hc, hm, h2.mono hs⟩
theorem By.keepAll (h : By w S v bs) (hk : Same (fun _ => True) w w') : By w' S v bs := h.keep (hk.mono fun _ _ _ => trivial)
end
/-- The cells vs read as a list of byte slices. -/
def ByL (w : World) (S : Nat → Prop) (v : Value) (l : List (List UInt8)) : Prop :=
  ∃ A c vs, v = .slice A l.length c ∧ l.length ≤ c ∧ c ≤ maxLen ∧ Sl w S 1 A l.length vs ∧ ∀ (i : Nat) (u : Value) (x : List UInt8), vs[i]? = some u → l[i]? = some x → By w S u x
section
variable {S S' : Nat → Prop} {w w' : World} {v : Value} {l : List (List UInt8)}
theorem ByL.keep (h : ByL w S v l) (hk : Same S w w') : ByL w' S v l := by
  obtain ⟨A, c, vs, rfl, hc, hm, hs, he⟩ := h
  exact ⟨A, c, vs, rfl, hc, hm, hs.keep hk, fun i u x hu hx => (he i u x hu hx).keep hk⟩
theorem ByL.mono (h : ByL w S v l) (hs : ∀ k, k < w.heap.size → S k → S' k) : ByL w S' v l := by
  obtain ⟨A, c, vs, rfl, hc, hm, h2, he⟩ := h
  exact ⟨A, c, vs, rfl, hc, hm, h2.mono hs, fun i u x hu hx => (he i u x hu hx).mono hs⟩
theorem ByL.keepAll (h : ByL w S v l) (hk : Same (fun _ => True) w w') : ByL w' S v l := h.keep (hk.mono fun _ _ _ => trivial)
end
def Row (w : World) (g : Nat) (e : TypeId) (xs : List Value) : Prop := w.heap[g]? = some (.cells xs.toArray e (0, 0))
section
variable {S : Nat → Prop} {w w' : World} {g : Nat} {e : TypeId} {xs : List Value}
theorem Row.lt (h : Row w g e xs) : g < w.heap.size := by
  rcases Nat.lt_or_ge g w.heap.size with hlt | hge
  · exact hlt
  · unfold Row at h; rw [Array.getElem?_eq_none hge] at h; cases h
theorem Row.cell (h : Row w g e xs) (i : Nat) : w.cell? ⟨g, i, none⟩ = xs[i]? := by
  rw [cell_of_row w g i _ e (0, 0) h]; simp
theorem Row.frozen (h : Row w g e xs) (i : Nat) : w.frozen? ⟨g, i, none⟩ = false := by
  unfold Row at h
  simp [World.frozen?, h]
theorem Row.new (w : World) (e : TypeId) (xs : List Value) : Row (w.alloc (.cells xs.toArray e)) w.heap.size e xs := heap_alloc_new w _
theorem Row.keep (h : Row w g e xs) (hk : Same S w w') (hs : S g) : Row w' g e xs := (hk.block g h.lt hs).trans h
theorem Row.set_ (h : Row w g e xs) (i : Nat) (u : Value) : Row (w.setCell ⟨g, i, none⟩ u) g e (xs.set i u) := by
  unfold Row at h ⊢
  simp [World.setCell, Array.getElem?_modify, h]
theorem Row.ne {g' : Nat} {e' : TypeId} {xs' : List Value} (h : Row w g e xs) (h' : Row w g' e' xs') (hne : e ≠ e') : g ≠ g' := by
  rintro rfl
  unfold Row at h h'
  rw [h] at h'
  injection h' with h'
  injection h' with _ ht
  exact hne ht
theorem Row.sl (h : Row w g e xs) {size off n : Nat} (hn : off + n * size ≤ xs.length) : Sl w (fun k => k = g) size (some ⟨g, off, none⟩) n ((xs.drop off).take (n * size)) := by
  refine ⟨by simp; omega, fun _ => ⟨_, rfl, rfl, fun j u hu => ?_⟩⟩
  have e0 : (⟨g, off, none⟩ : Addr).add j = ⟨g, off + j, none⟩ := by unfold Addr.add; split <;> simp_all
  rw [e0, h.cell]
  rw [List.getElem?_take] at hu
  split at hu
  · simpa using hu
  · simp at hu
theorem Row.owns (h : Row w g e xs) {base size n cap : Nat} (hb : base ≤ g) (hc : xs.length = cap * size) (hn : n ≤ cap) (hm : cap ≤ maxLen) :
    w.ownsRow base e size (.slice (some ⟨g, 0, none⟩) n cap) n (xs.take (n * size)) :=
  ⟨by rw [List.length_take, hc, Nat.min_eq_left (Nat.mul_le_mul_right _ hn)], .inr ⟨g, cap, xs.toArray, rfl, hb, h, hn, hm, by simpa using hc, rfl⟩⟩
end
theorem ownsRow_row {w : World} {base : Nat} {e : TypeId} {size : Nat} {v : Value} {n : Nat} {xs : List Value} (h : w.ownsRow base e size v n xs) :
    (v = .slice none 0 0 ∧ n = 0 ∧ xs = []) ∨ ∃ g cap cur, v = .slice (some ⟨g, 0, none⟩) n cap ∧ base ≤ g ∧ Row w g e cur ∧ n ≤ cap ∧ cap ≤ maxLen ∧ cur.length = cap * size ∧ cur.take (n * size) = xs := by
  rcases h.2 with ⟨h1, h2⟩ | ⟨g, cap, cur, h1, h2, h3, h4, h5, h6, h7⟩
  · refine .inl ⟨h1, h2, ?_⟩
    apply List.eq_nil_of_length_eq_zero; rw [h.1, h2]; simp
  · exact .inr ⟨g, cap, cur.toList, h1, h2, by simpa [Row] using h3, h4, h5, by simpa using h6, h7⟩
theorem own_keep {S : Nat → Prop} {w w' : World} {base : Nat} {e : TypeId} {size : Nat} {v : Value} {n : Nat} {xs : List Value} (h : w.ownsRow base e size v n xs) (hk : Same S w w') (hs : ∀ k, v.ownBlock = some k → S k) :
    w'.ownsRow base e size v n xs := by
  refine ⟨h.1, ?_⟩
  rcases h.2 with hn | ⟨g, cap, cur, rfl, hb, hgg, rest⟩
  · exact .inl hn
  · refine .inr ⟨g, cap, cur, rfl, hb, ?_, rest⟩
    rw [hk.block g (Array.getElem?_eq_some_iff.1 hgg).1 (hs g rfl)]
    exact hgg
theorem own_keepAll {w w' : World} {base : Nat} {e : TypeId} {size : Nat} {v : Value} {n : Nat} {xs : List Value} (h : w.ownsRow base e size v n xs) (hk : Same (fun _ => True) w w') :
    w'.ownsRow base e size v n xs := own_keep h hk fun _ _ => trivial
structure SlT (P : Program) (t e : TypeId) (size bytes : Nat) (z : Value) : Prop where
  und : P.underlying t = some (.slice e)
  info : (P.info? e).map (fun i => (i.zero, i.size, i.bytes)) = some (some z, size, bytes)
  zs : z.cells.size = size
  pos : 0 < size
section
variable {P : Program} {t e : TypeId} {size bytes : Nat} {z : Value}
theorem wpList_app (T : SlT P t e size bytes z) (w : World) {ops : Array Oper} {rest : List Oper} {o : Oper} {a : Act} {Q : Exit → Act → World → Prop} (hgd : o.guard = none) (s x : Operand)
    (ho : o.op = .call { callee := .builtin .append, args := #[s, x], argTypes := #[t, t] })
    (base : Nat) (v : Value) (n : Nat) (xs : List Value) (hs : a.eval s = v) (hown : w.ownsRow base e size v n xs)
    (S : Nat → Prop) (A : Option Addr) (m c : Nat) (news : List Value) (hx : a.eval x = .slice A m c) (hr : Sl w S size A m news) (h1 : ∀ u ∈ news, u.oneCell' = true)
    (h63 : n + m ≤ maxLen) (hbytes : (n + m) * bytes ≤ 140737488355328) (hbase : base ≤ w.heap.size)
    (h : ∀ v' w', w'.ownsRow base e size v' (n + m) (xs ++ news) → Same (fun k => some k ≠ v.ownBlock) w w' → (v'.ownBlock = v.ownBlock ∨ v'.ownBlock = some w.heap.size) → wpList P ops Q rest (a.put o.dst v') w') : wpList P ops Q (o :: rest) a w := by
  obtain ⟨i, hi, hz, h4, h5⟩ := info_parts T.info
  have key : ∃ v' w', (Builtin.append_ #[t, t] o.type #[v, .slice A m c]).run P w = .ok v' w' ∧ w'.ownsRow base e size v' (n + m) (xs ++ news) ∧ w.grownBy w' v.ownBlock ∧
      (v'.ownBlock = v.ownBlock ∨ v'.ownBlock = some w.heap.size) := by
    rcases A with _ | ad
    · have hm : m = 0 := by
        rcases Nat.eq_zero_or_pos m with h0 | h0
        · exact h0
        · obtain ⟨ad, h, _⟩ := hr.2 h0
          cases h
      subst hm
      have hn : news = [] := List.eq_nil_of_length_eq_zero (by simpa using hr.1)
      subst hn
      refine ⟨v, w, ?_, by simpa using hown, World.grownBy.refl w _, .inl rfl⟩
      rcases hown.2 with ⟨rfl, rfl⟩ | ⟨g, cap, cur, rfl, _, _, hnc, _⟩
      · simp [Builtin.append_, run_underlying T.und, sizeOf, typeInfo, hi, Builtin.lenOf, Builtin.firstCells]
      · simp [Builtin.append_, run_underlying T.und, sizeOf, typeInfo, hi, Builtin.lenOf, Builtin.firstCells, hnc, storeCells]
    · have hcells : ∀ j u, news[j]? = some u → w.cell? (ad.add j) = some u := by
        intro j u hu
        rcases Nat.eq_zero_or_pos m with h0 | h0
        · subst h0
          have hn : news = [] := List.eq_nil_of_length_eq_zero (by simpa using hr.1)
          subst hn
          simp at hu
        · obtain ⟨ad', h, _, hc⟩ := hr.2 h0
          injection h with h
          subst h
          exact hc j u hu
      obtain ⟨v', w', hrun, h2, h3, _, h5⟩ := run_append_own_at (P := P) w base t o.type e i z size bytes T.und hi hz h4 h5 T.zs T.pos v n xs hown ad m c news hr.1 hcells h1 h63 hbytes hbase
      exact ⟨v', w', hrun, h2, h3, h5⟩
  obtain ⟨v', w', hrun, h2, h3, h4⟩ := key
  refine wpList_plain hgd fun K hK => ?_
  unfold Oper.wp execOp
  simp only [ho, resolve, invoke, builtin, Sem.run_bind, Sem.run_pure, Result.andThen_ok, List.map_toArray, List.map_cons, List.map_nil, hs, hx, hrun]
  exact hK _ _ (h v' w' h2 (Same.ofGrown h3) h4)
/-- A guard: the operation is a copy. -/
theorem stopCopy {w : World} {ops : Array Oper} {rest : List Oper} {o : Oper} {a : Act} {Q : Exit → Act → World → Prop} {args : Array Operand} {ts : Array TypeId}
    (_ho : o.op = .call { callee := .builtin .copy, args := args, argTypes := ts }) (h : Hid (wpList P ops Q (o :: rest) a w)) : wpList P ops Q (o :: rest) a w := h
end
/-- The string of these bytes. -/
def str (bs : List UInt8) : ByteArray := ⟨bs.toArray⟩
theorem str_size (bs : List UInt8) : (str bs).size = bs.length := by simp [str, ByteArray.size]
theorem str_get (s : ByteArray) : s = str s.data.toList := by simp [str]
theorem conv_str {P : Program} {w : World} {S : Nat → Prop} {A : Option Addr} {bs : List UInt8} (c : Nat) (src dst e : TypeId)
    (hs : P.underlying src = some (.slice e)) (he : P.underlying e = some (.int .u8)) (hd : P.underlying dst = some .string) (h : Sl w S 1 A bs.length (cs8 bs)) :
    (convert src dst (.slice A bs.length c)).run P w = .ok (.string (str bs)) w := by
  rw [run_convert_bytes_string w src dst e A _ c hs he hd]
  rcases A with _ | ad
  · have hb : bs = [] := by
      cases bs with
      | nil => rfl
      | cons b bs => obtain ⟨ad, h, _⟩ := h.2 (by simp); cases h
    subst hb
    rfl
  · have hc : ∀ j u, (cs8 bs)[j]? = some u → w.cell? (ad.add j) = some u := by
      intro j u hu
      cases hb : bs with
      | nil => subst hb; simp [cs8] at hu
      | cons b bs' =>
        obtain ⟨ad', h1, _, h2⟩ := h.2 (by rw [hb]; simp)
        injection h1 with h1
        subst h1
        exact h2 j u hu
    have hl := run_loadCells_list (P := P) w ad (cs8 bs) hc
    have e1 : cs8 bs = (bs.map n8).map (Value.int .u8) := by simp [cs8]
    rw [show (cs8 bs).length = bs.length from by simp [cs8], e1] at hl
    rw [run_bytesToString w ad bs.length c (bs.map n8) hl, foldl_push_bytes]
    have e2 : (bs.map n8).map (fun n => UInt8.ofNat n.toNat) = bs := by
      rw [List.map_map]
      conv => rhs; rw [← List.map_id bs]
      apply List.map_congr_left
      intro b _
      simp [n8]
    rw [e2]
    simp [str]
section
variable {H : Type} {enc : TypeId × Value → H} {P : Program} {W : World}
theorem i64_of_wf {n : Int} (h : (Lit.int .i64 n).wf = true) : -9223372036854775808 ≤ n ∧ n ≤ 9223372036854775807 := by
  simp [Lit.wf, IntKind.min, IntKind.max, IntKind.signed, IntKind.bits] at h
  omega
end
/-- What a law's walk has to show. -/
def LawWalk (P : Program) (f : FuncId) (fn : Func) (H : Type) (enc : TypeId × Value → H) : Prop :=
  ∀ (W : World) (base : Nat) (args : List Value) (ds : List (DataW H)) (ps : List MemPlace),
    (∀ (j : Nat) (t : TypeId) (v : Value), fn.params[j]? = some t → args[j]? = some v → Value.okWide P W .any base t v) →
    DataW.TrodAll enc P W 0 (fun _ => true) true fn.params.toList args ds ps →
    Calls P f args.toArray W fun e W' => e = .returned (.bool true) ∧ Same (fun _ => True) W W'
end Go.Proofs.Ytoldelocfmpccaa
namespace Go.Proofs.Ytoldelocfmpccaa
open Go.RowKit
abbrev bl (s : ByteArray) : List UInt8 := s.data.toList
/-- A block of cells known whole, its mark behind the first q cells. -/
def RowQ (w : World) (g : Nat) (e : TypeId) (q : Nat) (xs : List Value) : Prop := w.heap[g]? = some (.cells xs.toArray e (q, q + 1))
section
variable {S : Nat → Prop} {w w' : World} {g q : Nat} {e : TypeId} {xs : List Value}
theorem RowQ.lt (h : RowQ w g e q xs) : g < w.heap.size := by
  rcases Nat.lt_or_ge g w.heap.size with hlt | hge
  · exact hlt
  · unfold RowQ at h; rw [Array.getElem?_eq_none hge] at h; cases h
theorem RowQ.cell (h : RowQ w g e q xs) (i : Nat) : w.cell? ⟨g, i, none⟩ = xs[i]? := by
  rw [cell_of_row w g i _ e _ h]; simp
theorem RowQ.frozen (h : RowQ w g e q xs) (i : Nat) (hi : i < q) : w.frozen? ⟨g, i, none⟩ = false := by
  unfold RowQ at h
  simp [World.frozen?, h]; omega
theorem RowQ.keep (h : RowQ w g e q xs) (hk : Same S w w') (hs : S g) : RowQ w' g e q xs := (hk.block g h.lt hs).trans h
theorem RowQ.set_ (h : RowQ w g e q xs) (i : Nat) (u : Value) : RowQ (w.setCell ⟨g, i, none⟩ u) g e q (xs.set i u) := by
  unfold RowQ at h ⊢
  simp [World.setCell, Array.getElem?_modify, h]
theorem RowQ.sl (h : RowQ w g e q xs) {n : Nat} (hn : n ≤ xs.length) : Sl w (fun k => k = g) 1 (some ⟨g, 0, none⟩) n (xs.take n) := by
  refine ⟨by simp; omega, fun _ => ⟨_, rfl, rfl, fun j u hu => ?_⟩⟩
  have e0 : (⟨g, 0, none⟩ : Addr).add j = ⟨g, j, none⟩ := by unfold Addr.add; split <;> simp_all
  rw [e0, h.cell]
  rw [List.getElem?_take] at hu
  split at hu
  · exact hu
  · cases hu
end
theorem RowQ.by_ {w : World} {g q c n : Nat} {e : TypeId} {l : List UInt8} {more : List Value} (h : RowQ w g e q (cs8 l ++ more)) (hn : l.length = n) (hc : n ≤ c) (hm : c ≤ maxLen) : By w (fun k => k = g) (.slice (some ⟨g, 0, none⟩) n c) l := by
  subst hn
  have h1 := h.sl (n := l.length) (by simp [cs8])
  rw [List.take_append_of_le_length (by simp [cs8]), List.take_of_length_le (by simp [cs8])] at h1
  exact ⟨_, c, rfl, hc, hm, h1⟩
/-- The conversion of bytes that read. -/
theorem By.conv {P : Program} {w : World} {S : Nat → Prop} {v : Value} {l : List UInt8} (src dst e : TypeId)
    (hs : P.underlying src = some (.slice e)) (he : P.underlying e = some (.int .u8)) (hd : P.underlying dst = some .string) (h : By w S v l) : (convert src dst v).run P w = .ok (.string (str l)) w := by
  obtain ⟨A, c, rfl, _, _, h⟩ := h
  exact conv_str c src dst e hs he hd h
end Go.Proofs.Ytoldelocfmpccaa
namespace Go.Proofs.Ytoldelocfmpccaa
open Go.RowKit
structure St where
  wall : Int
  tie : Int
deriving DecidableEq
structure Ver where
  at_ : St
  drop : Bool
  data : List UInt8
deriving DecidableEq
structure TryT where
  node : Int
  life : Int
  seq : Int
  attempt : Int
deriving DecidableEq
structure Lck where
  by_ : TryT
  home : Int
  at_ : St
  drop : Bool
  data : List UInt8
deriving DecidableEq
structure Cel where
  key : List UInt8
  vers : List Ver
  locked : Bool
  lock : Lck
deriving DecidableEq
def Lck.zero : Lck := ⟨⟨0, 0, 0, 0⟩, 0, ⟨0, 0⟩, false, []⟩
def lessB (a b : St) : Bool := decide (a.wall < b.wall) || (decide (a.wall = b.wall) && decide (a.tie < b.tie))
def stCs (s : St) : List Value := [.int .i64 s.wall, .int .i64 s.tie]
def verCs (v : Ver) : List Value := [.int .i64 v.at_.wall, .int .i64 v.at_.tie, .bool v.drop, .string (str v.data)]
def tryCs (t : TryT) : List Value := [.int .i64 t.node, .int .i64 t.life, .int .i64 t.seq, .int .i64 t.attempt]
def lckCs (l : Lck) : List Value := [.int .i64 l.by_.node, .int .i64 l.by_.life, .int .i64 l.by_.seq, .int .i64 l.by_.attempt, .int .i64 l.home, .int .i64 l.at_.wall, .int .i64 l.at_.tie, .bool l.drop, .string (str l.data)]
def celCs (p : Value × Cel) : List Value := [.string (str p.2.key), p.1, .bool p.2.locked] ++ lckCs p.2.lock
abbrev stV (s : St) : Value := .agg #[.int .i64 s.wall, .int .i64 s.tie]
abbrev tryV (t : TryT) : Value := .agg #[.int .i64 t.node, .int .i64 t.life, .int .i64 t.seq, .int .i64 t.attempt]
abbrev verV (v : Ver) : Value := .agg #[.int .i64 v.at_.wall, .int .i64 v.at_.tie, .bool v.drop, .string (str v.data)]
abbrev lckV (l : Lck) : Value := .agg #[.int .i64 l.by_.node, .int .i64 l.by_.life, .int .i64 l.by_.seq, .int .i64 l.by_.attempt, .int .i64 l.home, .int .i64 l.at_.wall, .int .i64 l.at_.tie, .bool l.drop, .string (str l.data)]
abbrev celV (u : Value) (c : Cel) : Value := .agg #[.string (str c.key), u, .bool c.locked, .int .i64 c.lock.by_.node, .int .i64 c.lock.by_.life, .int .i64 c.lock.by_.seq, .int .i64 c.lock.by_.attempt, .int .i64 c.lock.home, .int .i64 c.lock.at_.wall, .int .i64 c.lock.at_.tie, .bool c.lock.drop, .string (str c.lock.data)]
theorem flat_at {α : Type} (f : α → List Value) (n : Nat) (hf : ∀ x, (f x).length = n) : ∀ (l : List α) (i j : Nat) (h : i < l.length), j < n → (l.flatMap f)[i * n + j]? = (f l[i])[j]?
  | [], i, j, h, _ => absurd h (Nat.not_lt_zero _)
  | x :: l, 0, j, _, hj => by
    rw [List.flatMap_cons, List.getElem?_append_left (by rw [hf]; omega)]
    simp
  | x :: l, i + 1, j, h, hj => by
    have e : (i + 1) * n + j = n + (i * n + j) := by rw [Nat.add_mul]; omega
    rw [List.flatMap_cons, List.getElem?_append_right (by rw [hf, e]; omega), hf, e]
    have := flat_at f n hf l i j (by simpa using h) hj
    rw [show n + (i * n + j) - n = i * n + j from by omega]
    simpa using this
theorem flat_len {α : Type} (f : α → List Value) (n : Nat) (hf : ∀ x, (f x).length = n) : ∀ l : List α, (l.flatMap f).length = l.length * n
  | [] => by simp
  | x :: l => by rw [List.flatMap_cons, List.length_append, hf, flat_len f n hf l, List.length_cons, Nat.add_mul]; omega
/-- A slice of structs, each of n cells, that reads as l. -/
def RowR {α : Type} (f : α → List Value) (n : Nat) (w : World) (S : Nat → Prop) (v : Value) (l : List α) : Prop :=
  ∃ A c, v = .slice A l.length c ∧ l.length ≤ c ∧ c ≤ maxLen ∧ Sl w S n A l.length (l.flatMap f)
section
variable {α : Type} {f : α → List Value} {n : Nat} {w w' : World} {S S' : Nat → Prop} {v : Value} {l : List α}
theorem RowR.keep (h : RowR f n w S v l) (hs : Same S w w') : RowR f n w' S v l := by
  obtain ⟨A, c, h1, h2, h3, h4⟩ := h
  exact ⟨A, c, h1, h2, h3, h4.keep hs⟩
theorem RowR.keepAll (h : RowR f n w S v l) (hs : Same (fun _ => True) w w') : RowR f n w' S v l := h.keep (hs.mono fun _ _ _ => trivial)
theorem RowR.mono (h : RowR f n w S v l) (hn : 0 < n) (hS : ∀ k, k < w.heap.size → S k → S' k) : RowR f n w S' v l := by
  obtain ⟨A, c, h1, h2, h3, h4⟩ := h
  exact ⟨A, c, h1, h2, h3, h4.mono hS hn⟩
theorem RowR.at_ (h : RowR f n w S v l) (hf : ∀ x, (f x).length = n) {i : Nat} (hi : i < l.length) :
    ∃ ad c, v = .slice (some ad) l.length c ∧ l.length ≤ c ∧ c ≤ maxLen ∧ S ad.block ∧ ∀ j, j < n → w.cell? ((ad.add (i * n)).add j) = (f l[i])[j]? := by
  obtain ⟨A, c, h1, h2, h3, h4⟩ := h
  obtain ⟨ad, rfl, hS, hc⟩ := h4.2 (by omega)
  refine ⟨ad, c, h1, h2, h3, hS, fun j hj => ?_⟩
  rw [add_of_add]
  have := flat_at f n hf l i j hi hj
  have hj' : j < (f l[i]).length := by rw [hf]; exact hj
  rw [List.getElem?_eq_getElem hj'] at this ⊢
  exact hc _ _ this
theorem RowR.nil_ (w : World) (S : Nat → Prop) (A : Option Addr) (c : Nat) (hc : c ≤ maxLen) : RowR f n w S (.slice A 0 c) [] := ⟨A, c, rfl, by simp, hc, by simpa using Sl.nil w S n A⟩
end
theorem add_zero (a : Addr) : a.add 0 = a := by simp [Addr.add]
theorem addr_add (a : Addr) (j : Nat) (h : 0 < j) : a.add j = ⟨a.block, a.off + j, none⟩ := by unfold Addr.add; rw [if_neg (by omega)]
theorem verCs_len (v : Ver) : (verCs v).length = 4 := rfl
theorem celCs_len (p : Value × Cel) : (celCs p).length = 12 := rfl
abbrev VerR (w : World) (S : Nat → Prop) (v : Value) (l : List Ver) : Prop := RowR verCs 4 w S v l
/-- Cells that read: the row, and each one's versions. -/
def CelR (w : World) (S : Nat → Prop) (v : Value) (cs : List Cel) : Prop :=
  ∃ us : List Value, us.length = cs.length ∧ RowR celCs 12 w S v (us.zip cs) ∧ ∀ i (h : i < cs.length) (h' : i < us.length), VerR w S us[i] cs[i].vers
section
variable {w w' : World} {S S' : Nat → Prop} {v : Value} {l : List Ver} {cs : List Cel}
theorem CelR.keep (h : CelR w S v cs) (hs : Same S w w') : CelR w' S v cs := by
  obtain ⟨us, h1, h2, h3⟩ := h
  exact ⟨us, h1, h2.keep hs, fun i a b => (h3 i a b).keep hs⟩
theorem CelR.keepAll (h : CelR w S v cs) (hs : Same (fun _ => True) w w') : CelR w' S v cs := h.keep (hs.mono fun _ _ _ => trivial)
theorem CelR.mono (h : CelR w S v cs) (hS : ∀ k, k < w.heap.size → S k → S' k) : CelR w S' v cs := by
  obtain ⟨us, h1, h2, h3⟩ := h
  exact ⟨us, h1, h2.mono (by omega) hS, fun i a b => (h3 i a b).mono (by omega) hS⟩
theorem CelR.form (h : CelR w S v cs) : ∃ A c, v = .slice A cs.length c ∧ cs.length ≤ c ∧ c ≤ maxLen := by
  obtain ⟨us, h1, ⟨A, c, h2, h3, h4, _⟩, _⟩ := h
  have e : (us.zip cs).length = cs.length := by simp [h1]
  rw [e] at h2 h3
  exact ⟨A, c, h2, h3, h4⟩
theorem VerR.form (h : VerR w S v l) : ∃ A c, v = .slice A l.length c ∧ l.length ≤ c ∧ c ≤ maxLen := by
  obtain ⟨A, c, h1, h2, h3, _⟩ := h
  exact ⟨A, c, h1, h2, h3⟩
/-- The cells of one version. -/
theorem VerR.cells {A : Option Addr} {n c : Nat} (h : VerR w S (.slice A n c) l) {i : Nat} (hi : i < l.length) : ∃ ad, A = some ad ∧ S ad.block ∧
    w.cell? (ad.add (i * 4)) = some (.int .i64 l[i].at_.wall) ∧ w.cell? ⟨(ad.add (i * 4)).block, (ad.add (i * 4)).off + 1, none⟩ = some (.int .i64 l[i].at_.tie) ∧ w.cell? ⟨(ad.add (i * 4)).block, (ad.add (i * 4)).off + 2, none⟩ = some (.bool l[i].drop) ∧ w.cell? ⟨(ad.add (i * 4)).block, (ad.add (i * 4)).off + 3, none⟩ = some (.string (str l[i].data)) := by
  obtain ⟨ad, c, h1, h2, h3, h4, h5⟩ := RowR.at_ h verCs_len hi
  injection h1 with h1 _ _
  exact ⟨ad, h1, h4, by have := h5 0 (by omega); rwa [add_zero] at this, h5 1 (by omega), h5 2 (by omega), h5 3 (by omega)⟩
/-- The cells of one cell. -/
theorem CelR.cells {A : Option Addr} {n c : Nat} (h : CelR w S (.slice A n c) cs) {i : Nat} (hi : i < cs.length) : ∃ ad u, A = some ad ∧ S ad.block ∧ VerR w S u cs[i].vers ∧
    w.cell? (ad.add (i * 12)) = some (.string (str cs[i].key)) ∧ ∀ j, 0 < j → j < 12 → w.cell? ⟨(ad.add (i * 12)).block, (ad.add (i * 12)).off + j, none⟩ = (celCs (u, cs[i]))[j]? := by
  obtain ⟨us, h1, h2, h3⟩ := h
  have e : (us.zip cs).length = cs.length := by simp [h1]
  obtain ⟨ad, c, a1, a2, a3, a4, a5⟩ := RowR.at_ h2 celCs_len (i := i) (by omega)
  have e2 : (us.zip cs)[i]'(by omega) = (us[i]'(by omega), cs[i]) := by simp
  rw [e2] at a5
  injection a1 with a1 _ _
  refine ⟨ad, us[i]'(by omega), a1, a4, h3 i hi (by omega), by have := a5 0 (by omega); rwa [add_zero] at this, fun j h0 hj => ?_⟩
  have := a5 j hj
  rw [addr_add _ j h0] at this
  exact this
theorem CelR.cells12 {A : Option Addr} {n c : Nat} (h : CelR w S (.slice A n c) cs) {i : Nat} (hi : i < cs.length) : ∃ ad u, A = some ad ∧ S ad.block ∧ VerR w S u cs[i].vers ∧
    w.cell? (ad.add (i * 12)) = some (.string (str cs[i].key)) ∧ w.cell? ⟨(ad.add (i * 12)).block, (ad.add (i * 12)).off + 1, none⟩ = some (u) ∧ w.cell? ⟨(ad.add (i * 12)).block, (ad.add (i * 12)).off + 2, none⟩ = some (.bool cs[i].locked) ∧ w.cell? ⟨(ad.add (i * 12)).block, (ad.add (i * 12)).off + 3, none⟩ = some (.int .i64 cs[i].lock.by_.node) ∧ w.cell? ⟨(ad.add (i * 12)).block, (ad.add (i * 12)).off + 4, none⟩ = some (.int .i64 cs[i].lock.by_.life) ∧ w.cell? ⟨(ad.add (i * 12)).block, (ad.add (i * 12)).off + 5, none⟩ = some (.int .i64 cs[i].lock.by_.seq) ∧ w.cell? ⟨(ad.add (i * 12)).block, (ad.add (i * 12)).off + 6, none⟩ = some (.int .i64 cs[i].lock.by_.attempt) ∧ w.cell? ⟨(ad.add (i * 12)).block, (ad.add (i * 12)).off + 7, none⟩ = some (.int .i64 cs[i].lock.home) ∧ w.cell? ⟨(ad.add (i * 12)).block, (ad.add (i * 12)).off + 8, none⟩ = some (.int .i64 cs[i].lock.at_.wall) ∧ w.cell? ⟨(ad.add (i * 12)).block, (ad.add (i * 12)).off + 9, none⟩ = some (.int .i64 cs[i].lock.at_.tie) ∧ w.cell? ⟨(ad.add (i * 12)).block, (ad.add (i * 12)).off + 10, none⟩ = some (.bool cs[i].lock.drop) ∧ w.cell? ⟨(ad.add (i * 12)).block, (ad.add (i * 12)).off + 11, none⟩ = some (.string (str cs[i].lock.data)) := by
  obtain ⟨ad, u, h1, h2, h3, h4, h5⟩ := h.cells hi
  exact ⟨ad, u, h1, h2, h3, h4, h5 1 (by omega) (by omega), h5 2 (by omega) (by omega), h5 3 (by omega) (by omega), h5 4 (by omega) (by omega), h5 5 (by omega) (by omega), h5 6 (by omega) (by omega), h5 7 (by omega) (by omega), h5 8 (by omega) (by omega), h5 9 (by omega) (by omega), h5 10 (by omega) (by omega), h5 11 (by omega) (by omega)⟩
end
end Go.Proofs.Ytoldelocfmpccaa
namespace Go.Proofs
open Go.Shelf
def Try.lays106_ren : Go.Shelf.Ren := ⟨fun | 106 => 96 | 213 => 109 | 265 => 115 | n => n, fun | 9 => 9 | 3 => 3 | n => n, fun | n => n⟩
theorem Try.lays106 : Go.Proofs.Lays.n106 Try.prog Try.lays106_ren := {
  mixed := by kernel_rfl
  f106 := Try.func96.trans (congrArg some (by kernel_rfl))
  f213 := Try.func109.trans (congrArg some (by kernel_rfl))
  f265 := Try.func115.trans (congrArg some (by kernel_rfl))
  t3 := Try.underlying3
  a3 := Try.isAgg3
  z3 := Try.sizeOf3
  v3 := Try.zeroValue3
  t9 := Try.underlying9
  a9 := Try.isAgg9
  z9 := Try.sizeOf9
  v9 := Try.zeroValue9 }
open Go.RowKit in
/-- strings.Compare: "Compare returns an integer comparing two strings lexicographically. The result will be 0 if a == b, -1 if a < b, and +1 if a > b.": IT RETURNS 'Lib.compareBytes a b'; the world is as it was. (LAID: no walk: one application.) -/
theorem Try.strings_Compare (a b : ByteArray) (w : World) :
    Calls Try.prog 96 #[.string a, .string b] w fun e w' => e = .returned (.int .i64 (Lib.compareBytes a.data.toList b.data.toList)) ∧ w' = w := Any.strings_Compare Try.lays106 a b w
end Go.Proofs
namespace Go.Proofs.Ytoldelocfmpccaa
open Go.RowKit
def cmpI (a b : Int) : Int := if a < b then -1 else if b < a then 1 else 0
set_option maxHeartbeats 400000 in
theorem cmp64_any (a b : Int) (w : World) : Calls Try.prog 100 #[.int .i64 a, .int .i64 b] w fun e w' => e = .returned (.int .i64 (cmpI a b)) ∧ w = w' := by
  have nan : ∀ (x : Int) (w : World), Calls Try.prog 111 #[.int .i64 x] w fun e w' => e = .returned (.bool false) ∧ w = w' := by
    intro x w
    go_enter Try.func111, Try.ntmps111
    go_wp2
    go_ret
    exact ⟨by simp, rfl⟩
  by_cases h1 : a < b
  · have K : cmpI a b = -1 := by unfold cmpI; rw [if_pos h1]
    rw [K]
    clear K
    go_enter Try.func100, Try.ntmps100
    go_wp2_with (go_at_call 111; refine (nan _ _).mono ?_; rintro e w' ⟨rfl, rfl⟩)
    go_ret
    exact ⟨rfl, rfl⟩
  · by_cases h2 : b < a
    · have K : cmpI a b = 1 := by unfold cmpI; rw [if_neg h1, if_pos h2]
      rw [K]
      clear K
      go_enter Try.func100, Try.ntmps100
      go_wp2_with (go_at_call 111; refine (nan _ _).mono ?_; rintro e w' ⟨rfl, rfl⟩)
      go_ret
      exact ⟨rfl, rfl⟩
    · have K : cmpI a b = 0 := by unfold cmpI; rw [if_neg h1, if_neg h2]
      rw [K]
      clear K
      go_enter Try.func100, Try.ntmps100
      go_wp2_with (go_at_call 111; refine (nan _ _).mono ?_; rintro e w' ⟨rfl, rfl⟩)
      go_ret
      exact ⟨rfl, rfl⟩
theorem ret_i64 {a b : Int} (h : a = b) : Ending.returned (.int .i64 a) = .returned (.int .i64 b) := by rw [h]
def orF (a b : Int) : Int := if a = 0 then b else a
set_option maxHeartbeats 400000 in
/-- cmp.Or of two numbers, in a row of their own. -/
theorem or2_any (a b : Int) (g : Nat) (w : World) (h0 : w.cell? ⟨g, 0, none⟩ = some (.int .i64 a)) (h1 : w.cell? ⟨g, 1, none⟩ = some (.int .i64 b)) :
    Calls Try.prog 99 #[.slice (some ⟨g, 0, none⟩) 2 2] w fun e w' => e = .returned (.int .i64 (orF a b)) ∧ w = w' := by
  go_enter Try.func99, Try.ntmps99
  go_wp2
  go_loop [5, 8] (fun _ i => ∃ k : Nat, k ≤ 2 ∧ i = .int .i64 k ∧ (0 < k → a = 0) ∧ (1 < k → b = 0)) (fun _ i => 2 - (intOf i).toNat)
  case atStart => exact ⟨0, by omega, rfl, by omega, by omega⟩
  case round =>
    obtain ⟨k, hk, rfl, ha, hb⟩ := hrel
    match k, hk with
    | 0, _ =>
      clear ha hb
      by_cases hz : a = 0
      · have e1 : (a != 0) = false := by simpa using hz
        have HZ := Lib.hid hz
        clear hz
        go_wp2
        exact ⟨⟨1, by omega, by go_num, fun _ => HZ.out, by omega⟩, by simp [intOf]⟩
      · have e1 : (a != 0) = true := by simpa using hz
        have HZ := Lib.hid hz
        clear hz
        go_wp2
        go_ret
        exact ⟨ret_i64 (by unfold orF; rw [if_neg HZ.out]), rfl⟩
    | 1, _ =>
      have hz := ha (by omega)
      clear ha hb
      by_cases hy : b = 0
      · have e1 : (b != 0) = false := by simpa using hy
        have HZ := Lib.hid hz
        have HY := Lib.hid hy
        clear hz hy
        go_wp2
        exact ⟨⟨2, by omega, by go_num, fun _ => HZ.out, fun _ => HY.out⟩, by simp [intOf]⟩
      · have e1 : (b != 0) = true := by simpa using hy
        have HZ := Lib.hid hz
        clear hz hy
        go_wp2
        go_ret
        exact ⟨ret_i64 (by unfold orF; rw [if_pos HZ.out]), rfl⟩
    | 2, _ =>
      have hz := ha (by omega)
      have hy := hb (by omega)
      have HZ := Lib.hid hz
      have HY := Lib.hid hy
      clear hz hy ha hb
      go_wp2
      go_ret
      exact ⟨ret_i64 (by unfold orF; rw [if_pos HZ.out, HY.out]), rfl⟩
theorem less_cmp (a b : St) : decide (orF (cmpI a.wall b.wall) (cmpI a.tie b.tie) < 0) = lessB a b := by
  rw [Bool.eq_iff_iff]
  unfold lessB orF cmpI
  simp only [decide_eq_true_eq, Bool.or_eq_true, Bool.and_eq_true]
  constructor
  · intro h
    by_cases h1 : a.wall < b.wall
    · exact .inl h1
    · by_cases h2 : b.wall < a.wall
      · simp [h1, h2] at h
      · simp only [h1, h2, if_false, if_true] at h
        right
        refine ⟨by omega, ?_⟩
        by_cases h3 : a.tie < b.tie
        · exact h3
        · by_cases h4 : b.tie < a.tie <;> simp [h3, h4] at h
  · rintro (h | ⟨h1, h2⟩)
    · simp [h]
    · simp [h1, h2]
set_option maxHeartbeats 1000000 in
theorem stless_any (a b : St) (w : World) : Calls Try.prog 71 #[stV a, stV b] w fun e w' => e = .returned (.bool (lessB a b)) ∧ Same (fun _ => True) w w' := by
  have HL := Lib.hid (less_cmp a b)
  go_enter Try.func71, Try.ntmps71
  go_wp2
  obtain ⟨W, hW⟩ : ∃ W, W = (w.alloc (.cells #[.int .i64 a.wall, .int .i64 a.tie] 28)).alloc (.cells #[.int .i64 b.wall, .int .i64 b.tie] 28) := ⟨_, rfl⟩
  have hr1 : Row W w.heap.size 28 (stCs a) := by rw [hW]; exact (Row.new w 28 (stCs a)).keep ((Same.refl (fun _ => True) _).alloc _) trivial
  have hr2 : Row W (w.heap.size + 1) 28 (stCs b) := by
    have := Row.new (w.alloc (.cells #[.int .i64 a.wall, .int .i64 a.tie] 28)) 28 (stCs b)
    rw [World.size_alloc] at this
    rw [hW]; exact this
  have hS : Same (fun _ => True) w W := by rw [hW]; exact ((Same.refl _ _).alloc _).alloc _
  have c0 : W.cell? ⟨w.heap.size, 0, none⟩ = some (.int .i64 a.wall) := hr1.cell 0
  have c1 : W.cell? ⟨w.heap.size, 1, none⟩ = some (.int .i64 a.tie) := hr1.cell 1
  have c2 : W.cell? ⟨w.heap.size + 1, 0, none⟩ = some (.int .i64 b.wall) := hr2.cell 0
  have c3 : W.cell? ⟨w.heap.size + 1, 1, none⟩ = some (.int .i64 b.tie) := hr2.cell 1
  have z1 := hr1.lt
  have z2 := hr2.lt
  rw [← hW]
  have HS := Lib.hid hS
  clear hr1 hr2 hW hS
  generalize w.heap.size + 1 = q at *
  generalize hp : w.heap.size = p at *
  clear hp
  go_region_held3 (fun w' => w'.cell? ⟨p, 0, none⟩ = some (.int .i64 a.wall) ∧ w'.cell? ⟨p, 1, none⟩ = some (.int .i64 a.tie) ∧ w'.cell? ⟨q, 0, none⟩ = some (.int .i64 b.wall) ∧ w'.cell? ⟨q, 1, none⟩ = some (.int .i64 b.tie)) (go_keep) ((first | (go_at_call 100; refine (cmp64_any _ _ _).mono ?_; rintro e w' ⟨rfl, rfl⟩) | (go_at_call 99; refine (or2_any (cmpI a.wall b.wall) (cmpI a.tie b.tie) _ _ (by simp) (by simp)).mono ?_; rintro e w' ⟨rfl, rfl⟩)))
  go_wp2
  go_ret
  refine ⟨by rw [← HL.out]; rfl, ?_⟩
  first | exact (HS.out.drew).alloc _ | exact (HS.out.alloc _).drew | trace_state
end Go.Proofs.Ytoldelocfmpccaa
namespace Go.Proofs.Ytoldelocfmpccaa
open Go.RowKit
theorem ret_bool {a b : Bool} (h : a = b) : Ending.returned (.bool a) = .returned (.bool b) := by rw [h]
/-- The place of the last of the first n versions that is not above a stamp. -/
def lastGo (l : List Ver) (a : St) : Nat → Int
  | 0 => -1
  | n + 1 => match l[n]? with
    | some v => if lessB a v.at_ then lastGo l a n else n
    | none => lastGo l a n
def lastF (l : List Ver) (a : St) : Int := lastGo l a l.length
theorem lastGo_step {l : List Ver} {a : St} {k : Nat} (h : k < l.length) : lastGo l a (k + 1) = if lessB a l[k].at_ then lastGo l a k else (k : Int) := by
  simp only [lastGo, List.getElem?_eq_getElem h]
theorem lastGo_bd (l : List Ver) (a : St) : ∀ n, -1 ≤ lastGo l a n ∧ lastGo l a n < n
  | 0 => by simp [lastGo]
  | n + 1 => by
    have := lastGo_bd l a n
    unfold lastGo
    split
    · split <;> constructor <;> omega
    · constructor <;> omega
theorem lastF_bd (l : List Ver) (a : St) : -1 ≤ lastF l a ∧ lastF l a < l.length := lastGo_bd l a l.length
set_option maxHeartbeats 1000000 in
theorem mvlast_any (v : Value) (l : List Ver) (a : St) (S : Nat → Prop) (w : World) (hv : VerR w S v l) :
    Calls Try.prog 72 #[v, stV a] w fun e w' => e = .returned (.int .i64 (lastF l a)) ∧ Same (fun _ => True) w w' := by
  obtain ⟨A, c, rfl, hc, hm⟩ := hv.form
  have Hv := Lib.hid hv
  have hrow := Row.new w 28 (stCs a)
  have Hrow := Lib.hid hrow
  unfold maxLen at hm
  clear hv hrow
  go_enter Try.func72, Try.ntmps72
  go_wp2
  go_loopw [5] (fun i wr => ∃ j : Int, i = .int .i64 j ∧ -1 ≤ j ∧ j < l.length ∧ lastGo l a (j + 1).toNat = lastF l a ∧ Row wr w.heap.size 28 (stCs a) ∧ Same (fun _ => True) w wr) (fun i _ => (intOf i + 1).toNat)
  case atStart => exact ⟨_, rfl, by omega, by omega, by unfold lastF; congr 1; omega, Hrow.out, (Same.refl _ _).alloc _⟩
  case round =>
    obtain ⟨j, rfl, h1, h2, hl, hrow, hS⟩ := hrel
    have Hr := Lib.hid hrow
    have HS := Lib.hid hS
    have c0 : wr.cell? ⟨w.heap.size, 0, none⟩ = some (.int .i64 a.wall) := hrow.cell 0
    have c1 : wr.cell? ⟨w.heap.size, 1, none⟩ = some (.int .i64 a.tie) := hrow.cell 1
    by_cases hj : 0 ≤ j
    · obtain ⟨k, rfl⟩ := Int.eq_ofNat_of_zero_le hj
      have hk : k < l.length := by omega
      obtain ⟨ad, rfl, -, d0, d1, -, -⟩ := VerR.cells (Hv.out.keepAll hS) hk
      rw [show (((k : Nat) : Int) + 1).toNat = k + 1 from by omega, lastGo_step hk] at hl
      have g := fun W => stless_any a l[k].at_ W
      have x1 : (0 : Int) ≤ (k : Int) := by omega
      have x2 : (k : Int) < (l.length : Int) := by omega
      generalize l[k].at_ = b at *
      cases hb : lessB a b
      · rw [hb] at g hl
        have Hl := Lib.hid hl
        clear hb hl hrow hS
        go_wp2
        go_region_held3 (fun w' => w'.cell? ⟨w.heap.size, 0, none⟩ = some (.int .i64 a.wall) ∧ w'.cell? ⟨w.heap.size, 1, none⟩ = some (.int .i64 a.tie) ∧ w'.cell? (ad.add (k * 4)) = some (.int .i64 b.wall) ∧ w'.cell? ⟨(ad.add (k * 4)).block, (ad.add (k * 4)).off + 1, none⟩ = some (.int .i64 b.tie)) (first | go_keep | exact ⟨hS3.cell (p := ⟨w.heap.size, 0, none⟩) trivial (by assumption), hS3.cell (p := ⟨w.heap.size, 1, none⟩) trivial (by assumption), hS3.cell (p := ad.add (k * 4)) trivial (by assumption), hS3.cell (p := ⟨(ad.add (k * 4)).block, (ad.add (k * 4)).off + 1, none⟩) trivial (by assumption)⟩) ((go_at_call 71; refine (g _).mono ?_; rintro e w3 ⟨rfl, hS3⟩))
        go_wp2
        go_ret
        refine ⟨ret_i64 ?_, (HS.out.drew).trans hS3⟩
        rw [← Hl.out]; rfl
      · rw [hb] at g hl
        have Hl := Lib.hid hl
        clear hb hl hrow hS
        go_wp2
        go_region_held3 (fun w' => w'.cell? ⟨w.heap.size, 0, none⟩ = some (.int .i64 a.wall) ∧ w'.cell? ⟨w.heap.size, 1, none⟩ = some (.int .i64 a.tie) ∧ w'.cell? (ad.add (k * 4)) = some (.int .i64 b.wall) ∧ w'.cell? ⟨(ad.add (k * 4)).block, (ad.add (k * 4)).off + 1, none⟩ = some (.int .i64 b.tie)) (first | go_keep | exact ⟨hS3.cell (p := ⟨w.heap.size, 0, none⟩) trivial (by assumption), hS3.cell (p := ⟨w.heap.size, 1, none⟩) trivial (by assumption), hS3.cell (p := ad.add (k * 4)) trivial (by assumption), hS3.cell (p := ⟨(ad.add (k * 4)).block, (ad.add (k * 4)).off + 1, none⟩) trivial (by assumption)⟩) ((go_at_call 71; refine (g _).mono ?_; rintro e w3 ⟨rfl, hS3⟩))
        go_wp2
        have hS4 := ((Same.refl (fun _ => True) wr).drew).trans hS3
        go_roundw
        case rel =>
          refine ⟨(k : Int) - 1, rfl, by omega, by omega, ?_, Hr.out.keep hS4 trivial, HS.out.trans hS4⟩
          rw [← Hl.out]
          simp only [if_true]
          congr 1
          omega
        case measure => simp [intOf]
    · obtain rfl : j = -1 := by omega
      have Hl := Lib.hid hl
      clear hl hrow hS
      go_wp2
      go_ret
      exact ⟨ret_i64 (by rw [← Hl.out]; rfl), HS.out⟩
set_option maxHeartbeats 400000 in
theorem refless_any (a b : St) (w : World) : Calls Try.prog 28 #[stV a, stV b] w fun e w' => e = .returned (.bool (lessB a b)) ∧ Same (fun _ => True) w w' := by
  have H : lessB a b = (decide (a.wall < b.wall) || (decide (a.wall = b.wall) && decide (a.tie < b.tie))) := rfl
  by_cases h1 : a.wall < b.wall <;> by_cases h2 : a.wall = b.wall <;> by_cases h3 : a.tie < b.tie
  all_goals
    simp only [h1, h2, h3, decide_true, decide_false, Bool.true_or, Bool.false_or, Bool.and_true, Bool.and_false, Bool.and_self] at H
    rw [H]
    clear H
    first
    | (exfalso; omega)
    | (first
       | have k2 : (a.wall == b.wall) = true := by simpa using h2
       | have k2 : (a.wall == b.wall) = false := by simpa using h2
       clear h2
       try have k1 : decide (a.wall < b.wall) = false := decide_eq_false h1
       try have k3 : decide (a.tie < b.tie) = false := decide_eq_false h3
       go_enter Try.func28, Try.ntmps28
       go_wp2
       go_ret
       exact ⟨ret_bool (by first | rfl | simp_all), ((Same.refl _ _).alloc _).alloc _⟩)
end Go.Proofs.Ytoldelocfmpccaa
namespace Go.Proofs.Ytoldelocfmpccaa
open Go.RowKit
/-- What versions tell at a stamp. -/
def tellsF (l : List Ver) (a : St) : List UInt8 × Bool :=
  match l[(lastF l a).toNat]? with
  | some v => if lastF l a < 0 ∨ v.drop = true then ([], false) else (v.data, true)
  | none => ([], false)
def TellP (r : List UInt8 × Bool) (w : World) (e : Ending) (w' : World) : Prop := e = .returned (.tuple #[.string (str r.1), .bool r.2]) ∧ Same (fun _ => True) w w'
set_option maxHeartbeats 1000000 in
theorem mvtells_any (u : Value) (c : Cel) (a : St) (S : Nat → Prop) (w : World) (hv : VerR w S u c.vers) :
    Calls Try.prog 70 #[celV u c, stV a] w (TellP (tellsF c.vers a) w) := by
  obtain ⟨A, cp, rfl, hc, hm⟩ := hv.form
  have Hv := Lib.hid hv
  have hbd := lastF_bd c.vers a
  unfold maxLen at hm
  clear hv
  obtain ⟨L, hL⟩ : ∃ L, lastF c.vers a = L := ⟨_, rfl⟩
  rw [hL] at hbd
  have HL := Lib.hid hL
  have g := fun V W h => mvlast_any V c.vers a S W h
  rw [hL] at g
  clear hL
  go_enter Try.func70, Try.ntmps70
  go_wp2_with (go_at_call 72; refine stopAt ?_)
  unfold Hid
  have hsm : Same (fun _ => True) w ((w.alloc (.cells (celCs (.slice A c.vers.length cp, c)).toArray 64)).alloc (.cells (stCs a).toArray 28)) := ((Same.refl _ _).alloc _).alloc _
  have hrow := (Row.new w 64 (celCs (.slice A c.vers.length cp, c))).keep ((Same.refl (fun _ => True) _).alloc (.cells (stCs a).toArray 28)) trivial
  refine (g _ _ (RowR.keepAll Hv.out hsm)).mono ?_
  rintro e w1 ⟨rfl, hS⟩
  have c1 : w1.cell? ⟨w.heap.size, 1, none⟩ = some (.slice A c.vers.length cp) := (hrow.keep hS trivial).cell 1
  have hv1 := RowR.keepAll (RowR.keepAll Hv.out hsm) hS
  have HS := Lib.hid (hsm.trans hS)
  clear hS hsm hrow g
  by_cases h0 : L < 0
  · have K : tellsF c.vers a = ([], false) := by
      unfold tellsF
      rw [HL.out]
      split
      · rw [if_pos (.inl h0)]
      · rfl
    have HK := Lib.hid K
    have d0 : decide (L < 0) = true := decide_eq_true h0
    clear K hv1
    go_wp2
    go_ret2
    rw [HK.out]
    exact ⟨rfl, HS.out⟩
  · obtain ⟨k, rfl⟩ := Int.eq_ofNat_of_zero_le (Int.not_lt.1 h0)
    have hk : k < c.vers.length := by omega
    obtain ⟨ad, rfl, -, -, -, d2, d3⟩ := VerR.cells hv1 hk
    have x1 : (0 : Int) ≤ (k : Int) := by omega
    have x2 : (k : Int) < (c.vers.length : Int) := by omega
    have d0 : decide ((k : Int) < 0) = false := decide_eq_false h0
    have K : tellsF c.vers a = if c.vers[k].drop = true then ([], false) else (c.vers[k].data, true) := by
      unfold tellsF
      rw [HL.out]
      simp only [Int.toNat_natCast, List.getElem?_eq_getElem hk]
      simp [h0]
    have HK := Lib.hid K
    clear K hv1 h0
    generalize c.vers[k] = b at *
    cases hd : b.drop
    · rw [hd] at d2 HK
      clear hd
      go_wp2
      go_ret2
      rw [HK.out]
      exact ⟨rfl, HS.out⟩
    · rw [hd] at d2 HK
      clear hd
      go_wp2
      go_ret2
      rw [HK.out]
      exact ⟨rfl, HS.out⟩
/-- What the document's loop has behind the first k versions. -/
def ofP (l : List Ver) (a : St) (k : Nat) : List UInt8 × Bool :=
  match l[(lastGo l a k).toNat]? with
  | some v => if lastGo l a k < 0 then ([], false) else (v.data, !v.drop)
  | none => ([], false)
theorem ofP_step {l : List Ver} {a : St} {k : Nat} (h : k < l.length) : ofP l a (k + 1) = if lessB a l[k].at_ then ofP l a k else (l[k].data, !l[k].drop) := by
  unfold ofP
  rw [lastGo_step h]
  cases lessB a l[k].at_
  · simp only [Bool.false_eq_true, if_false, Int.toNat_natCast, List.getElem?_eq_getElem h]
    rw [if_neg (by omega)]
  · simp only [if_true]
theorem ofP_zero (l : List Ver) (a : St) : ofP l a 0 = ([], false) := by
  unfold ofP
  have e : lastGo l a 0 = -1 := rfl
  rw [e]
  cases l[(-1 : Int).toNat]? with
  | none => rfl
  | some v => simp
theorem ofP_tells (l : List Ver) (a : St) : tellsF l a = if (ofP l a l.length).2 = true then ((ofP l a l.length).1, true) else ([], false) := by
  have hbd := lastF_bd l a
  unfold tellsF ofP
  have e : lastGo l a l.length = lastF l a := rfl
  rw [e]
  split
  · by_cases h : lastF l a < 0
    · simp [h]
    · rename_i v _
      cases hd : v.drop <;> simp [h, hd]
  · rfl
set_option maxHeartbeats 1000000 in
theorem refof_any (u : Value) (c : Cel) (a : St) (S : Nat → Prop) (w : World) (hv : VerR w S u c.vers) :
    Calls Try.prog 88 #[celV u c, stV a] w (TellP (tellsF c.vers a) w) := by
  obtain ⟨A, cp, rfl, hc, hm⟩ := hv.form
  have Hv := Lib.hid hv
  unfold maxLen at hm
  clear hv
  have hsm : Same (fun _ => True) w ((w.alloc (.cells (celCs (.slice A c.vers.length cp, c)).toArray 64)).alloc (.cells (stCs a).toArray 28)) := ((Same.refl _ _).alloc _).alloc _
  have hrow := (Row.new w 64 (celCs (.slice A c.vers.length cp, c))).keep ((Same.refl (fun _ => True) _).alloc (.cells (stCs a).toArray 28)) trivial
  have hrow2 := Row.new (w.alloc (.cells (celCs (.slice A c.vers.length cp, c)).toArray 64)) 28 (stCs a)
  rw [World.size_alloc] at hrow2
  have Hsm := Lib.hid hsm
  have Hrow := Lib.hid hrow
  have Hrow2 := Lib.hid hrow2
  clear hsm hrow hrow2
  go_enter Try.func88, Try.ntmps88
  go_wp2
  go_loopw [6, 7, 8, 9] (fun d b i _ wr => ∃ k : Nat, k ≤ c.vers.length ∧ i = .int .i64 k ∧ d = .string (str (ofP c.vers a k).1) ∧ b = .bool (ofP c.vers a k).2 ∧ Row wr w.heap.size 64 (celCs (.slice A c.vers.length cp, c)) ∧ Row wr (w.heap.size + 1) 28 (stCs a) ∧ Same (fun _ => True) w wr) (fun _ _ i _ _ => c.vers.length - (intOf i).toNat)
  case atStart =>
    exact ⟨0, Nat.zero_le _, rfl, by rw [ofP_zero]; rfl, by rw [ofP_zero], Hrow.out, Hrow2.out, Hsm.out⟩
  case round =>
    obtain ⟨k, hk, rfl, rfl, rfl, hr1, hr2, hS⟩ := hrel
    have HR1 := Lib.hid hr1
    have HR2 := Lib.hid hr2
    have HS := Lib.hid hS
    have c1 : wr.cell? ⟨w.heap.size, 1, none⟩ = some (.slice A c.vers.length cp) := hr1.cell 1
    have s0 : wr.cell? ⟨w.heap.size + 1, 0, none⟩ = some (.int .i64 a.wall) := hr2.cell 0
    have s1 : wr.cell? ⟨w.heap.size + 1, 1, none⟩ = some (.int .i64 a.tie) := hr2.cell 1
    have z1 := hr1.lt
    have z2 := hr2.lt
    by_cases hlt : k < c.vers.length
    · obtain ⟨ad, rfl, -, d0, d1, d2, d3⟩ := VerR.cells (RowR.keepAll Hv.out hS) hlt
      have hst := ofP_step (a := a) hlt
      have g := fun W => refless_any a c.vers[k].at_ W
      have hab := World.block_lt_of_cell? wr _ d0
      have x1 : (0 : Int) ≤ (k : Int) := by omega
      have x2 : (k : Int) < (c.vers.length : Int) := by omega
      generalize c.vers[k] = b at *
      have hrow := Row.new wr 69 (verCs b)
      have Hrow := Lib.hid hrow
      clear hr1 hr2 hS hrow
      cases hb : lessB a b.at_
      · rw [hb] at g hst
        have Hst := Lib.hid hst
        clear hb hst
        go_wp2_with (go_at_call 28; refine stopAt ?_)
        unfold Hid
        refine (g _).mono ?_
        rintro e w3 ⟨rfl, hS3⟩
        have hrow3 := Hrow.out.keep hS3 trivial
        have v2 : w3.cell? ⟨wr.heap.size, 2, none⟩ = some (.bool b.drop) := hrow3.cell 2
        have v3 : w3.cell? ⟨wr.heap.size, 3, none⟩ = some (.string (str b.data)) := hrow3.cell 3
        have hS4 := ((Same.refl (fun _ => True) wr).alloc (.cells (verCs b).toArray 69)).trans hS3
        have HS4 := Lib.hid hS4
        clear hrow3 hS3 hS4 c1 s0 s1 d0 d1 d2 d3
        go_wp2
        go_quiet (fail)
        rename_i nq
        go_wp2
        go_roundw
        case rel =>
          refine ⟨k + 1, by omega, by go_num, ?_, ?_, HR1.out.keep (HS4.out.drewN nq) trivial, HR2.out.keep (HS4.out.drewN nq) trivial, HS.out.trans (HS4.out.drewN nq)⟩
          · rw [Hst.out]; rfl
          · rw [Hst.out]; rfl
        case measure => simp [intOf]; omega
      · rw [hb] at g hst
        have Hst := Lib.hid hst
        clear hb hst
        go_wp2_with (go_at_call 28; refine stopAt ?_)
        unfold Hid
        refine (g _).mono ?_
        rintro e w3 ⟨rfl, hS3⟩
        have hS4 := ((Same.refl (fun _ => True) wr).alloc (.cells (verCs b).toArray 69)).trans hS3
        have HS4 := Lib.hid hS4
        clear hS3 hS4 c1 s0 s1 d0 d1 d2 d3
        go_wp2
        go_roundw
        case rel =>
          refine ⟨k + 1, by omega, by go_num, ?_, ?_, HR1.out.keep HS4.out trivial, HR2.out.keep HS4.out trivial, HS.out.trans HS4.out⟩
          · rw [Hst.out]; rfl
          · rw [Hst.out]; rfl
        case measure => simp [intOf]; omega
    · obtain rfl : k = c.vers.length := by omega
      have K := ofP_tells c.vers a
      generalize ofP c.vers a c.vers.length = pr at *
      obtain ⟨pd, pb⟩ := pr
      cases pb
      · have HK := Lib.hid K
        clear K hr1 hr2 hS
        go_wp2
        go_ret2
        rw [HK.out]
        exact ⟨rfl, HS.out⟩
      · have HK := Lib.hid K
        clear K hr1 hr2 hS
        go_wp2
        go_ret2
        rw [HK.out]
        exact ⟨rfl, HS.out⟩
end Go.Proofs.Ytoldelocfmpccaa
namespace Go.Proofs.Ytoldelocfmpccaa
def ltB (a b : List UInt8) : Bool := Op.bytesLess a b
theorem ltB_str (a b : List UInt8) : Op.bytesLess (str a).toList (str b).toList = ltB a b := by
  rw [ByteArray.toList_eq, ByteArray.toList_eq]; rfl
theorem ltB_irrefl : ∀ a : List UInt8, ltB a a = false
  | [] => rfl
  | c :: a => by
    have := ltB_irrefl a
    unfold ltB at this ⊢
    simp [Op.bytesLess, this]
theorem ltB_tri : ∀ a b : List UInt8, ltB a b = true ∨ a = b ∨ ltB b a = true
  | [], [] => .inr (.inl rfl)
  | [], _ :: _ => .inl rfl
  | _ :: _, [] => .inr (.inr rfl)
  | c :: a, d :: b => by
    have := ltB_tri a b
    unfold ltB at this ⊢
    simp only [Op.bytesLess, Bool.or_eq_true, decide_eq_true_eq, Bool.and_eq_true, beq_iff_eq, List.cons.injEq]
    rcases Nat.lt_trichotomy c.toNat d.toNat with h | h | h
    · exact .inl (.inl (UInt8.lt_iff_toNat_lt.2 h))
    · have e : c = d := UInt8.toNat_inj.1 h
      rcases this with h1 | h1 | h1
      · exact .inl (.inr ⟨e, h1⟩)
      · exact .inr (.inl ⟨e, h1⟩)
      · exact .inr (.inr (.inr ⟨e.symm, h1⟩))
    · exact .inr (.inr (.inl (UInt8.lt_iff_toNat_lt.2 h)))
theorem ltB_trans : ∀ {a b c : List UInt8}, ltB a b = true → ltB b c = true → ltB a c = true
  | _, [], _, h, _ => by unfold ltB at h; simp [Op.bytesLess] at h
  | _, _ :: _, [], _, h => by unfold ltB at h; simp [Op.bytesLess] at h
  | [], _ :: _, _ :: _, _, _ => rfl
  | x :: a, y :: b, z :: c, h1, h2 => by
    have ih := @ltB_trans a b c
    unfold ltB at ih h1 h2 ⊢
    simp only [Op.bytesLess, Bool.or_eq_true, decide_eq_true_eq, Bool.and_eq_true, beq_iff_eq] at h1 h2 ⊢
    rcases h1 with h1 | ⟨rfl, h1⟩
    · rcases h2 with h2 | ⟨rfl, h2⟩
      · left
        rw [UInt8.lt_iff_toNat_lt] at h1 h2 ⊢
        omega
      · exact .inl h1
    · rcases h2 with h2 | ⟨rfl, h2⟩
      · exact .inl h2
      · exact .inr ⟨rfl, ih h1 h2⟩
theorem ltB_asymm {a b : List UInt8} (h : ltB a b = true) : ltB b a = false := by
  cases h2 : ltB b a
  · rfl
  · have := ltB_trans h h2
    rw [ltB_irrefl] at this; cases this
theorem ltB_ne {a b : List UInt8} (h : ltB a b = true) : a ≠ b := by
  rintro rfl
  rw [ltB_irrefl] at h; cases h
theorem cmpB_eq : ∀ a b : List UInt8, Lib.compareBytes a b = if ltB a b then -1 else if a = b then 0 else 1
  | [], [] => rfl
  | [], _ :: _ => rfl
  | _ :: _, [] => rfl
  | c :: a, d :: b => by
    have ih := cmpB_eq a b
    unfold ltB at ih ⊢
    simp only [Lib.compareBytes, Op.bytesLess, Bool.or_eq_true, decide_eq_true_eq, Bool.and_eq_true, beq_iff_eq, List.cons.injEq]
    by_cases h : c < d
    · simp [h]
    · by_cases h2 : d < c
      · have hne : ¬ c = d := by rintro rfl; exact h h2
        simp [h, h2, hne]
      · have e : c = d := by
          apply UInt8.toNat_inj.1
          rw [UInt8.lt_iff_toNat_lt] at h h2
          omega
        subst e
        simp [h, ih]
theorem cmpB_neg (a b : List UInt8) : decide (Lib.compareBytes a b < 0) = ltB a b := by
  rw [cmpB_eq]
  cases ltB a b
  · simp; split <;> omega
  · rfl
theorem cmpB_zero (a b : List UInt8) : (Lib.compareBytes a b == 0) = decide (a = b) := by
  rw [cmpB_eq]
  cases h : ltB a b
  · simp only [Bool.false_eq_true, if_false]
    by_cases e : a = b
    · simp [e]
    · simp [e]
  · have := ltB_ne h
    simp [this]
/-- The keys rise. -/
def Sorted (cs : List Cel) : Prop := ∀ (i j : Nat) (hi : i < cs.length) (hj : j < cs.length), i < j → ltB cs[i].key cs[j].key = true
/-- The place of a key: how many are ahead of it. -/
def posF (cs : List Cel) (key : List UInt8) : Nat := (cs.takeWhile fun c => ltB c.key key).length
def foundF (cs : List Cel) (key : List UInt8) : Bool := match cs[posF cs key]? with | some c => decide (c.key = key) | none => false
theorem posF_eq {key : List UInt8} : ∀ {cs : List Cel} {i : Nat}, i ≤ cs.length → (∀ k (h : k < cs.length), k < i → ltB cs[k].key key = true) → (∀ k (h : k < cs.length), i ≤ k → ltB cs[k].key key = false) → posF cs key = i
  | [], i, h0, _, _ => by simp at h0; subst h0; rfl
  | c :: cs, 0, _, _, h2 => by
    have := h2 0 (by simp) (by omega)
    simp at this
    simp [posF, List.takeWhile_cons, this]
  | c :: cs, i + 1, h0, h1, h2 => by
    have e := h1 0 (by simp) (by omega)
    simp at e
    have ih := posF_eq (key := key) (cs := cs) (i := i) (by simpa using h0) (fun k h hk => by have := h1 (k + 1) (by simpa using h) (by omega); simpa using this) (fun k h hk => by have := h2 (k + 1) (by simpa using h) (by omega); simpa using this)
    unfold posF at ih ⊢
    simp only [List.takeWhile_cons, e, if_true, List.length_cons, ih]
theorem Sorted.low {cs : List Cel} (hs : Sorted cs) {key : List UInt8} {m : Nat} (hm : m < cs.length) (h : ltB cs[m].key key = true) : ∀ k (hk : k < cs.length), k < m + 1 → ltB cs[k].key key = true := by
  intro k hk hkm
  rcases Nat.lt_or_ge k m with h1 | h1
  · exact ltB_trans (hs k m hk hm h1) h
  · obtain rfl : k = m := by omega
    exact h
theorem Sorted.high {cs : List Cel} (hs : Sorted cs) {key : List UInt8} {m : Nat} (hm : m < cs.length) (h : ltB cs[m].key key = false) : ∀ k (hk : k < cs.length), m ≤ k → ltB cs[k].key key = false := by
  intro k hk hkm
  rcases Nat.lt_or_ge m k with h1 | h1
  · cases h2 : ltB cs[k].key key
    · rfl
    · have := ltB_trans (hs m k hm hk h1) h2
      rw [this] at h; cases h
  · obtain rfl : k = m := by omega
    exact h
end Go.Proofs.Ytoldelocfmpccaa
namespace Go.Proofs.Ytoldelocfmpccaa
open Go.RowKit
theorem findcmp_any (u : Value) (c : Cel) (key : List UInt8) (w : World) :
    Calls Try.prog 95 #[celV u c, .string (str key)] w fun e w' => e = .returned (.int .i64 (Lib.compareBytes c.key key)) ∧ Same (fun _ => True) w w' := by
  have g := fun W => Try.strings_Compare (str c.key) (str key) W
  rw [show (str c.key).data.toList = c.key from rfl, show (str key).data.toList = key from rfl] at g
  go_enter Try.func95, Try.ntmps95
  go_wp2_with (go_at_call 96; refine (g _).mono ?_; rintro e w' ⟨rfl, rfl⟩)
  go_ret
  exact ⟨rfl, (Same.refl _ _).alloc _⟩
/-- What the search's loop holds. -/
def SearchRel (cs : List Cel) (key : List UInt8) (i j : Nat) : Prop :=
  i ≤ j ∧ j ≤ cs.length ∧ (∀ k (h : k < cs.length), k < i → ltB cs[k].key key = true) ∧ ∀ k (h : k < cs.length), j ≤ k → ltB cs[k].key key = false
set_option maxHeartbeats 1000000 in
theorem search_any (v : Value) (cs : List Cel) (key : List UInt8) (S : Nat → Prop) (w : World) (hv : CelR w S v cs) (hso : Sorted cs) (hn : cs.length ≤ 1000000) :
    Calls Try.prog 94 #[v, .string (str key), .func (.func 95) #[] #[]] w fun e w' => e = .returned (.tuple #[.int .i64 (posF cs key), .bool (foundF cs key)]) ∧ Same (fun _ => True) w w' := by
  obtain ⟨A, cp, rfl, hc, hm⟩ := hv.form
  have Hv := Lib.hid hv
  have Hso := Lib.hid hso
  unfold maxLen at hm
  clear hv hso
  go_enter Try.func94, Try.ntmps94
  go_wp2
  go_loopw [9, 10, 11] (fun i j _ wr => ∃ a b : Nat, i = .int .i64 a ∧ j = .int .i64 b ∧ SearchRel cs key a b ∧ Same (fun _ => True) w wr) (fun i j _ _ => (intOf j).toNat - (intOf i).toNat)
  case atStart => exact ⟨0, cs.length, rfl, rfl, ⟨by omega, Nat.le_refl _, fun k h h2 => absurd h2 (Nat.not_lt_zero _), fun k h h2 => by omega⟩, Same.refl _ _⟩
  case round =>
    obtain ⟨a, b, rfl, rfl, ⟨h1, h2, h3, h4⟩, hS⟩ := hrel
    have HS := Lib.hid hS
    have H3 := Lib.hid h3
    have H4 := Lib.hid h4
    clear h3 h4
    by_cases hlt : a < b
    · have hmb : (a + b) / 2 < cs.length := by omega
      obtain ⟨ad, u, rfl, -, -, c0, c1, c2, c3, c4, c5, c6, c7, c8, c9, c10, c11⟩ := CelR.cells12 (Hv.out.keepAll hS) hmb
      have x1 : (0 : Int) ≤ (((a + b) / 2 : Nat) : Int) := by omega
      have x2 : (((a + b) / 2 : Nat) : Int) < (cs.length : Int) := by omega
      have g := fun U W => findcmp_any U cs[(a + b) / 2] key W
      have hlow := Hso.out.low (key := key) hmb
      have hhigh := Hso.out.high (key := key) hmb
      have hcm := cmpB_neg cs[(a + b) / 2].key key
      have Hlow := Lib.hid hlow
      have Hhigh := Lib.hid hhigh
      clear hS hlow hhigh
      cases hb : ltB cs[(a + b) / 2].key key
      · have HB := Lib.hid hb
        rw [hb] at hcm
        clear hb
        go_wp2_with (go_at_call 95; refine (g u _).mono ?_; rintro e w3 ⟨rfl, hS3⟩)
        go_roundw
        case rel => exact ⟨a, (a + b) / 2, rfl, by go_num, ⟨by omega, by omega, H3.out, Hhigh.out HB.out⟩, HS.out.trans hS3⟩
        case measure => simp [intOf]; omega
      · have HB := Lib.hid hb
        rw [hb] at hcm
        clear hb
        go_wp2_with (go_at_call 95; refine (g u _).mono ?_; rintro e w3 ⟨rfl, hS3⟩)
        go_roundw
        case rel => exact ⟨(a + b) / 2 + 1, b, by go_num, rfl, ⟨by omega, by omega, Hlow.out HB.out, H4.out⟩, HS.out.trans hS3⟩
        case measure => simp [intOf]; omega
    · obtain rfl : a = b := by omega
      have hpos := posF_eq (key := key) h2 H3.out H4.out
      have Hpos := Lib.hid hpos
      by_cases hin : a < cs.length
      · obtain ⟨ad, u, rfl, -, -, c0, c1, c2, c3, c4, c5, c6, c7, c8, c9, c10, c11⟩ := CelR.cells12 (Hv.out.keepAll hS) hin
        have x1 : (0 : Int) ≤ (a : Int) := by omega
        have x2 : (a : Int) < (cs.length : Int) := by omega
        have g := fun U W => findcmp_any U cs[a] key W
        have hf : foundF cs key = (Lib.compareBytes cs[a].key key == 0) := by
          unfold foundF
          rw [hpos, List.getElem?_eq_getElem hin, cmpB_zero]
        have Hf := Lib.hid hf
        clear hS hpos hf
        go_wp2_with (go_at_call 95; refine (g u _).mono ?_; rintro e w3 ⟨rfl, hS3⟩)
        go_ret2
        rw [Hpos.out, Hf.out]
        exact ⟨rfl, HS.out.trans hS3⟩
      · have hf : foundF cs key = false := by
          unfold foundF
          rw [hpos, List.getElem?_eq_none (by omega)]
        have Hf := Lib.hid hf
        clear hS hpos hf
        go_wp2
        go_ret2
        rw [Hpos.out, Hf.out]
        exact ⟨rfl, HS.out⟩
set_option maxHeartbeats 1000000 in
theorem mvfind_any (v : Value) (cs : List Cel) (key : List UInt8) (S : Nat → Prop) (w : World) (hv : CelR w S v cs) (hso : Sorted cs) (hn : cs.length ≤ 1000000) :
    Calls Try.prog 68 #[v, .string (str key)] w fun e w' => e = .returned (.tuple #[.int .i64 (posF cs key), .bool (foundF cs key)]) ∧ Same (fun _ => True) w w' := by
  have g := search_any v cs key S w hv hso hn
  go_enter Try.func68, Try.ntmps68
  go_wp2_with (go_at_call 94; refine g.mono ?_; rintro e w' ⟨rfl, hS⟩)
  go_ret2
  exact ⟨rfl, hS⟩
end Go.Proofs.Ytoldelocfmpccaa
namespace Go.Proofs.Ytoldelocfmpccaa
open Go.RowKit
theorem found_at {cs : List Cel} {key : List UInt8} (h : foundF cs key = true) : ∃ hp : posF cs key < cs.length, cs[posF cs key].key = key := by
  unfold foundF at h
  cases hg : cs[posF cs key]? with
  | none => rw [hg] at h; cases h
  | some c =>
    rw [hg] at h
    obtain ⟨h1, h2⟩ := List.getElem?_eq_some_iff.1 hg
    exact ⟨h1, by rw [h2]; simpa using h⟩
theorem posF_hit {cs : List Cel} (hs : Sorted cs) {key : List UInt8} {k : Nat} (hk : k < cs.length) (h : cs[k].key = key) : posF cs key = k ∧ foundF cs key = true := by
  have e : posF cs key = k := posF_eq (by omega) (fun i hi hik => by have := hs i k hi hk hik; rwa [h] at this) (fun i hi hik => by
    rcases Nat.lt_or_ge k i with h1 | h1
    · have := hs k i hk hi h1
      rw [h] at this
      exact ltB_asymm this
    · obtain rfl : i = k := by omega
      rw [h]; exact ltB_irrefl key)
  refine ⟨e, ?_⟩
  unfold foundF
  rw [e, List.getElem?_eq_getElem hk]
  simpa using h
theorem found_none {cs : List Cel} {key : List UInt8} (h : ∀ k (hk : k < cs.length), cs[k].key ≠ key) : foundF cs key = false := by
  cases hf : foundF cs key
  · rfl
  · obtain ⟨hp, e⟩ := found_at hf
    exact absurd e (h _ hp)
/-- What a key tells. -/
def getF (cs : List Cel) (key : List UInt8) (a : St) : List UInt8 × Bool := match cs[posF cs key]? with | some c => if foundF cs key then tellsF c.vers a else ([], false) | none => ([], false)
theorem getF_hit {cs : List Cel} {key : List UInt8} {a : St} (h : foundF cs key = true) (hp : posF cs key < cs.length) : getF cs key a = tellsF cs[posF cs key].vers a := by
  unfold getF
  rw [List.getElem?_eq_getElem hp]
  simp [h]
theorem getF_miss {cs : List Cel} {key : List UInt8} {a : St} (h : foundF cs key = false) : getF cs key a = ([], false) := by
  unfold getF
  cases cs[posF cs key]? with
  | none => rfl
  | some c => simp [h]
set_option maxHeartbeats 1000000 in
theorem reffind_any (v : Value) (cs : List Cel) (key : List UInt8) (S : Nat → Prop) (w : World) (hv : CelR w S v cs) (hso : Sorted cs) :
    Calls Try.prog 89 #[v, .string (str key)] w fun e w' => e = .returned (.int .i64 (if foundF cs key then (posF cs key : Int) else -1)) ∧ w = w' := by
  obtain ⟨A, cp, rfl, hc, hm⟩ := hv.form
  have Hv := Lib.hid hv
  have Hso := Lib.hid hso
  unfold maxLen at hm
  obtain ⟨R, hR⟩ : ∃ R : Int, R = if foundF cs key then (posF cs key : Int) else -1 := ⟨_, rfl⟩
  rw [← hR]
  have HR := Lib.hid hR
  clear hR hv hso
  go_enter Try.func89, Try.ntmps89
  go_wp2
  go_loop [5] (fun i => ∃ k : Nat, k ≤ cs.length ∧ i = .int .i64 k ∧ ∀ j (h : j < cs.length), j < k → cs[j].key ≠ key) (fun i => cs.length - (intOf i).toNat)
  case atStart => exact ⟨0, Nat.zero_le _, rfl, fun j _ h => absurd h (Nat.not_lt_zero _)⟩
  case round =>
    obtain ⟨k, hk, rfl, hno⟩ := hrel
    have Hno := Lib.hid hno
    clear hno
    by_cases hlt : k < cs.length
    · obtain ⟨ad, u, rfl, -, -, c0, -⟩ := CelR.cells12 Hv.out hlt
      have x1 : (0 : Int) ≤ (k : Int) := by omega
      have x2 : (k : Int) < (cs.length : Int) := by omega
      by_cases he : cs[k].key = key
      · obtain ⟨h1, h2⟩ := posF_hit Hso.out hlt he
        have hR : R = k := by rw [HR.out, h2, h1]; rfl
        have HR2 := Lib.hid hR
        have q1 : (str cs[k].key).toList = (str key).toList := by rw [he]
        clear hR h1 h2 he
        go_wp2
        go_ret
        exact ⟨by rw [HR2.out]; rfl, rfl⟩
      · have q1 : ¬ (str cs[k].key).toList = (str key).toList := by rw [ByteArray.toList_eq, ByteArray.toList_eq]; exact he
        have q2 : ((str cs[k].key).toList == (str key).toList) = false := by simpa using q1
        have He := Lib.hid he
        clear he
        go_wp2
        refine ⟨⟨k + 1, by omega, by go_num, fun j h hj => ?_⟩, by simp [intOf]; omega⟩
        rcases Nat.lt_or_ge j k with h1 | h1
        · exact Hno.out j h h1
        · obtain rfl : j = k := by omega
          exact He.out
    · obtain rfl : k = cs.length := by omega
      have hf := found_none (key := key) fun j h => Hno.out j h h
      have hR : R = -1 := by rw [HR.out, hf]; rfl
      have HR2 := Lib.hid hR
      clear hR hf
      go_wp2
      go_ret
      exact ⟨by rw [HR2.out]; rfl, rfl⟩
set_option maxHeartbeats 1000000 in
theorem refget_any (v : Value) (cs : List Cel) (key : List UInt8) (a : St) (S : Nat → Prop) (w : World) (hv : CelR w S v cs) (hso : Sorted cs) :
    Calls Try.prog 58 #[v, .string (str key), stV a] w (TellP (getF cs key a) w) := by
  obtain ⟨A, cp, rfl, hc, hm⟩ := hv.form
  have Hv := Lib.hid hv
  unfold maxLen at hm
  cases hf : foundF cs key
  · have g := fun W h => reffind_any (.slice A cs.length cp) cs key S W h hso
    rw [hf] at g
    simp only [Bool.false_eq_true, if_false] at g
    have K := getF_miss (a := a) hf
    have HK := Lib.hid K
    clear K hf hv hso
    go_enter Try.func58, Try.ntmps58
    go_wp2_with (go_at_call 89; refine (g _ (Hv.out.keepAll ((Same.refl _ _).alloc _))).mono ?_; rintro e w' ⟨rfl, rfl⟩)
    go_ret2
    rw [HK.out]
    exact ⟨rfl, (Same.refl _ _).alloc _⟩
  · obtain ⟨hp, -⟩ := found_at hf
    have K := getF_hit (a := a) hf hp
    have HK := Lib.hid K
    have g := fun W h => reffind_any (.slice A cs.length cp) cs key S W h hso
    rw [hf] at g
    simp only [if_true] at g
    have hrow0 := Row.new w 28 (stCs a)
    obtain ⟨w1, hw1⟩ : ∃ w1, w1 = w.alloc (.cells (stCs a).toArray 28) := ⟨_, rfl⟩
    have hS1 : Same (fun _ => True) w w1 := by rw [hw1]; exact (Same.refl _ _).alloc _
    rw [← hw1] at hrow0
    have s0 : w1.cell? ⟨w.heap.size, 0, none⟩ = some (.int .i64 a.wall) := hrow0.cell 0
    have s1 : w1.cell? ⟨w.heap.size, 1, none⟩ = some (.int .i64 a.tie) := hrow0.cell 1
    have HS := Lib.hid hS1
    have HW := Lib.hid hw1
    clear K hf hv hso hrow0 hw1
    generalize posF cs key = p at *
    obtain ⟨ad, u, rfl, -, hvr, c0, c1, c2, c3, c4, c5, c6, c7, c8, c9, c10, c11⟩ := CelR.cells12 (Hv.out.keepAll hS1) hp
    have Hvr := Lib.hid hvr
    have x1 : (0 : Int) ≤ (p : Int) := by omega
    have x2 : (p : Int) < (cs.length : Int) := by omega
    generalize cs[p] = c at *
    clear hS1 hvr
    go_enter Try.func58, Try.ntmps58
    go_wp2_with (go_at_call 89; refine stopAt ?_)
    unfold Hid
    refine (g _ (Hv.out.keepAll ((Same.refl _ _).alloc _))).mono ?_
    rintro e w' ⟨rfl, rfl⟩
    have e1 := HW.out
    simp only [stCs] at e1
    rw [← e1]
    clear e1 g
    go_wp2
    have gt := fun W h => refof_any u c a S W h
    go_region_held3 (fun w' => w'.cell? (ad.add (p * 12)) = some (.string (str c.key)) ∧ w'.cell? ⟨(ad.add (p * 12)).block, (ad.add (p * 12)).off + 1, none⟩ = some (u) ∧ w'.cell? ⟨(ad.add (p * 12)).block, (ad.add (p * 12)).off + 2, none⟩ = some (.bool c.locked) ∧ w'.cell? ⟨(ad.add (p * 12)).block, (ad.add (p * 12)).off + 3, none⟩ = some (.int .i64 c.lock.by_.node) ∧ w'.cell? ⟨(ad.add (p * 12)).block, (ad.add (p * 12)).off + 4, none⟩ = some (.int .i64 c.lock.by_.life) ∧ w'.cell? ⟨(ad.add (p * 12)).block, (ad.add (p * 12)).off + 5, none⟩ = some (.int .i64 c.lock.by_.seq) ∧ w'.cell? ⟨(ad.add (p * 12)).block, (ad.add (p * 12)).off + 6, none⟩ = some (.int .i64 c.lock.by_.attempt) ∧ w'.cell? ⟨(ad.add (p * 12)).block, (ad.add (p * 12)).off + 7, none⟩ = some (.int .i64 c.lock.home) ∧ w'.cell? ⟨(ad.add (p * 12)).block, (ad.add (p * 12)).off + 8, none⟩ = some (.int .i64 c.lock.at_.wall) ∧ w'.cell? ⟨(ad.add (p * 12)).block, (ad.add (p * 12)).off + 9, none⟩ = some (.int .i64 c.lock.at_.tie) ∧ w'.cell? ⟨(ad.add (p * 12)).block, (ad.add (p * 12)).off + 10, none⟩ = some (.bool c.lock.drop) ∧ w'.cell? ⟨(ad.add (p * 12)).block, (ad.add (p * 12)).off + 11, none⟩ = some (.string (str c.lock.data)) ∧ w'.cell? ⟨w.heap.size, 0, none⟩ = some (.int .i64 a.wall) ∧ w'.cell? ⟨w.heap.size, 1, none⟩ = some (.int .i64 a.tie)) (first | go_keep | exact ⟨hS3.cell (p := (ad.add (p * 12))) trivial (by assumption), hS3.cell (p := ⟨(ad.add (p * 12)).block, (ad.add (p * 12)).off + 1, none⟩) trivial (by assumption), hS3.cell (p := ⟨(ad.add (p * 12)).block, (ad.add (p * 12)).off + 2, none⟩) trivial (by assumption), hS3.cell (p := ⟨(ad.add (p * 12)).block, (ad.add (p * 12)).off + 3, none⟩) trivial (by assumption), hS3.cell (p := ⟨(ad.add (p * 12)).block, (ad.add (p * 12)).off + 4, none⟩) trivial (by assumption), hS3.cell (p := ⟨(ad.add (p * 12)).block, (ad.add (p * 12)).off + 5, none⟩) trivial (by assumption), hS3.cell (p := ⟨(ad.add (p * 12)).block, (ad.add (p * 12)).off + 6, none⟩) trivial (by assumption), hS3.cell (p := ⟨(ad.add (p * 12)).block, (ad.add (p * 12)).off + 7, none⟩) trivial (by assumption), hS3.cell (p := ⟨(ad.add (p * 12)).block, (ad.add (p * 12)).off + 8, none⟩) trivial (by assumption), hS3.cell (p := ⟨(ad.add (p * 12)).block, (ad.add (p * 12)).off + 9, none⟩) trivial (by assumption), hS3.cell (p := ⟨(ad.add (p * 12)).block, (ad.add (p * 12)).off + 10, none⟩) trivial (by assumption), hS3.cell (p := ⟨(ad.add (p * 12)).block, (ad.add (p * 12)).off + 11, none⟩) trivial (by assumption), hS3.cell (p := ⟨w.heap.size, 0, none⟩) trivial (by assumption), hS3.cell (p := ⟨w.heap.size, 1, none⟩) trivial (by assumption)⟩) ((go_at_call 88; refine (gt _ (RowR.keepAll Hvr.out ((Same.refl _ _).drew))).mono ?_; rintro e w3 ⟨rfl, hS3⟩))
    go_wp2
    go_ret2
    rw [HK.out]
    exact ⟨rfl, (HS.out.drew).trans hS3⟩
end Go.Proofs.Ytoldelocfmpccaa
namespace Go.Proofs.Ytoldelocfmpccaa
open Go.RowKit
def inB (lo hi key : List UInt8) : Bool := !ltB key lo && ltB key hi
theorem takeWhile_pos {cs : List Cel} (key : List UInt8) : ∀ k (h : k < cs.length), k < posF cs key → ltB cs[k].key key = true := by
  induction cs with
  | nil => intro k h; simp at h
  | cons c cs ih =>
    intro k h hk
    cases hc : ltB c.key key
    · simp [posF, List.takeWhile_cons, hc] at hk
    · cases k with
      | zero => simpa using hc
      | succ k =>
        have := ih k (by simpa using h) (by simp only [posF, List.takeWhile_cons, hc, if_true, List.length_cons] at hk ⊢; omega)
        simpa using this
theorem posF_le (cs : List Cel) (key : List UInt8) : posF cs key ≤ cs.length := (List.takeWhile_prefix _).length_le
theorem posF_at {cs : List Cel} (key : List UInt8) (h : posF cs key < cs.length) : ltB cs[posF cs key].key key = false := by
  induction cs with
  | nil => simp at h
  | cons c cs ih =>
    cases hc : ltB c.key key
    · have e : posF (c :: cs) key = 0 := by simp [posF, List.takeWhile_cons, hc]
      simp only [e, List.getElem_cons_zero]
      exact hc
    · have e : posF (c :: cs) key = posF cs key + 1 := by simp [posF, List.takeWhile_cons, hc]
      simp only [e, List.getElem_cons_succ]
      exact ih (by rw [e] at h; simpa using h)
theorem pos_lt {cs : List Cel} (hs : Sorted cs) {key : List UInt8} {k : Nat} (hk : k < cs.length) : ltB cs[k].key key = decide (k < posF cs key) := by
  by_cases h : k < posF cs key
  · rw [takeWhile_pos key k hk h, decide_eq_true h]
  · rw [decide_eq_false h]
    have hp : posF cs key < cs.length := by omega
    exact hs.high hp (posF_at key hp) k hk (by omega)
theorem filter_mid {α : Type} (p : α → Bool) : ∀ (l : List α) (i j : Nat), i ≤ j → j ≤ l.length → (∀ k (h : k < l.length), p l[k] = (decide (i ≤ k) && decide (k < j))) → l.filter p = (l.drop i).take (j - i)
  | [], i, j, _, _, _ => by simp
  | x :: l, 0, 0, _, _, h => by
    simp only [List.drop_zero, Nat.sub_self, List.take_zero]
    rw [List.filter_eq_nil_iff]
    intro y hy
    obtain ⟨k, hk, rfl⟩ := List.mem_iff_getElem.1 hy
    rw [h k hk]
    simp
  | x :: l, 0, j + 1, _, hj, h => by
    have h0 := h 0 (by simp)
    simp at h0
    have ih := filter_mid p l 0 j (by omega) (by simpa using hj) (fun k hk => by have := h (k + 1) (by simpa using hk); simpa using this)
    simp only [List.filter_cons, h0, if_true, ih]
    simp
  | x :: l, i + 1, 0, hij, _, _ => by omega
  | x :: l, i + 1, j + 1, hij, hj, h => by
    have h0 := h 0 (by simp)
    simp at h0
    have ih := filter_mid p l i j (by omega) (by simpa using hj) (fun k hk => by have := h (k + 1) (by simpa using hk); simpa using this)
    simp only [List.filter_cons, h0, Bool.false_eq_true, if_false, ih]
    simp
def withinF (cs : List Cel) (lo hi : List UInt8) : List Cel := cs.filter fun c => inB lo hi c.key
theorem within_none {cs : List Cel} {lo hi : List UInt8} (h : ltB lo hi = false) : withinF cs lo hi = [] := by
  unfold withinF
  rw [List.filter_eq_nil_iff]
  intro c _
  unfold inB
  intro h2
  simp only [Bool.and_eq_true, Bool.not_eq_true'] at h2
  rcases ltB_tri lo c.key with h3 | h3 | h3
  · rw [ltB_trans h3 h2.2] at h; cases h
  · rw [h3, h2.2] at h; cases h
  · rw [h3] at h2; cases h2.1
theorem within_some {cs : List Cel} (hs : Sorted cs) {lo hi : List UInt8} (h : ltB lo hi = true) : posF cs lo ≤ posF cs hi ∧ withinF cs lo hi = (cs.drop (posF cs lo)).take (posF cs hi - posF cs lo) := by
  have hle : posF cs lo ≤ posF cs hi := by
    rcases Nat.lt_or_ge (posF cs hi) (posF cs lo) with h1 | h1
    · have hl := posF_le cs lo
      have hk : posF cs hi < cs.length := by omega
      have := takeWhile_pos lo _ hk h1
      have := ltB_trans this h
      rw [posF_at hi hk] at this
      cases this
    · exact h1
  refine ⟨hle, filter_mid _ cs _ _ hle (posF_le cs hi) fun k hk => ?_⟩
  unfold inB
  rw [pos_lt hs hk, pos_lt hs hk]
  congr 1
  rw [Bool.eq_iff_iff]
  simp
theorem flat_drop {α : Type} (f : α → List Value) (n : Nat) (hf : ∀ x, (f x).length = n) : ∀ (l : List α) (i : Nat), (l.drop i).flatMap f = (l.flatMap f).drop (i * n)
  | l, 0 => by simp
  | [], i + 1 => by simp
  | x :: l, i + 1 => by
    have e0 : (i + 1) * n = n + i * n := by rw [Nat.add_mul]; omega
    have e1 : (f x).drop ((i + 1) * n) = [] := List.drop_eq_nil_of_le (by rw [hf, e0]; omega)
    rw [List.drop_succ_cons, flat_drop f n hf l i, List.flatMap_cons, List.drop_append, e1, List.nil_append, hf, e0]
    congr 1
    omega
theorem flat_take {α : Type} (f : α → List Value) (n : Nat) (hf : ∀ x, (f x).length = n) : ∀ (l : List α) (i : Nat), (l.take i).flatMap f = (l.flatMap f).take (i * n)
  | l, 0 => by simp
  | [], i + 1 => by simp
  | x :: l, i + 1 => by
    have e0 : (i + 1) * n = n + i * n := by rw [Nat.add_mul]; omega
    have e1 : (f x).take ((i + 1) * n) = f x := List.take_of_length_le (by rw [hf, e0]; omega)
    rw [List.take_succ_cons, List.flatMap_cons, flat_take f n hf l i, List.flatMap_cons, List.take_append, e1, hf, e0]
    congr 2
    omega
theorem RowR.cut {α : Type} {f : α → List Value} {n : Nat} {w : World} {S : Nat → Prop} {l : List α} {A : Option Addr} {m c : Nat} (h : RowR f n w S (.slice A m c) l) (hf : ∀ x, (f x).length = n) {i j : Nat} (hij : i ≤ j) (hj : j ≤ l.length) :
    RowR f n w S (.slice (if c = i then A else A.map (·.add (i * n))) (j - i) (c - i)) ((l.drop i).take (j - i)) := by
  obtain ⟨A', c', h1, h2, h3, h4⟩ := h
  injection h1 with e1 e2 e3
  subst e1 e2 e3
  have hl : ((l.drop i).take (j - i)).length = j - i := by simp; omega
  refine ⟨_, c - i, by rw [hl], by rw [hl]; omega, by omega, ?_⟩
  rw [hl, flat_take f n hf, flat_drop f n hf]
  exact (h4.cut (k := i) (cap := c) (by omega) h2).take (by omega)
theorem CelR.cut {w : World} {S : Nat → Prop} {cs : List Cel} {A : Option Addr} {m c : Nat} (h : CelR w S (.slice A m c) cs) {i j : Nat} (hij : i ≤ j) (hj : j ≤ cs.length) :
    CelR w S (.slice (if c = i then A else A.map (·.add (i * 12))) (j - i) (c - i)) ((cs.drop i).take (j - i)) := by
  obtain ⟨us, h1, h2, h3⟩ := h
  have e : (us.zip cs).length = cs.length := by simp [h1]
  have h4 := h2.cut celCs_len hij (by rw [e]; exact hj)
  refine ⟨(us.drop i).take (j - i), by simp [h1], ?_, fun k a b => ?_⟩
  · have e2 : ((us.zip cs).drop i).take (j - i) = ((us.drop i).take (j - i)).zip ((cs.drop i).take (j - i)) := by
      apply List.ext_getElem
      · simp [h1]
      · intro k _ _
        simp
    rw [← e2]
    exact h4
  · simp only [List.getElem_take, List.getElem_drop]
    exact h3 _ _ _
set_option maxHeartbeats 1000000 in
theorem within_any (v : Value) (cs : List Cel) (lo hi : List UInt8) (S : Nat → Prop) (w : World) (hv : CelR w S v cs) (hso : Sorted cs) (hn : cs.length ≤ 1000000) :
    Calls Try.prog 73 #[v, .agg #[.string (str lo), .string (str hi)]] w fun e w' => (∃ v', e = .returned v' ∧ CelR w' S v' (withinF cs lo hi)) ∧ Same (fun _ => True) w w' := by
  obtain ⟨A, cp, rfl, hc, hm⟩ := hv.form
  have Hv := Lib.hid hv
  have q1 := ltB_str lo hi
  have q2 := ltB_str hi lo
  unfold maxLen at hm
  cases hlt : ltB lo hi
  · have K := within_none (cs := cs) hlt
    have HK := Lib.hid K
    have q3 : (Op.bytesLess (str hi).toList (str lo).toList || (str hi).toList == (str lo).toList) = true := by
      rw [q2]
      rcases ltB_tri lo hi with h | h | h
      · rw [h] at hlt; cases hlt
      · rw [h]; simp
      · rw [h]; rfl
    clear K hlt q1 q2 hv hso
    go_enter Try.func73, Try.ntmps73
    go_wp2
    go_ret
    rw [HK.out]
    exact ⟨⟨_, rfl, [], rfl, RowR.nil_ _ _ _ _ (by simp [maxLen]), by simp⟩, (Same.refl _ _).alloc _⟩
  · obtain ⟨hle, K⟩ := within_some hso hlt
    have hle2 := posF_le cs hi
    have HK := Lib.hid K
    have q3 : (Op.bytesLess (str hi).toList (str lo).toList || (str hi).toList == (str lo).toList) = false := by
      rw [q2, ltB_asymm hlt, Bool.false_or, ByteArray.toList_eq, ByteArray.toList_eq]
      have := ltB_ne hlt
      simpa [str] using fun e => this e.symm
    have g1 := fun W h => mvfind_any (.slice A cs.length cp) cs lo S W h hso hn
    have g2 := fun W h => mvfind_any (.slice A cs.length cp) cs hi S W h hso hn
    have hrow := Row.new w 53 [.string (str lo), .string (str hi)]
    have Hrow := Lib.hid hrow
    clear K hlt q1 q2 hv hso hrow
    generalize posF cs lo = p at *
    generalize posF cs hi = q at *
    go_enter Try.func73, Try.ntmps73
    go_wp2_with (go_at_call 68; refine stopAt ?_)
    unfold Hid
    refine (g1 _ (Hv.out.keepAll ((Same.refl _ _).alloc _))).mono ?_
    rintro e w1 ⟨rfl, hS1⟩
    have hr1 := Hrow.out.keep hS1 trivial
    have b1 : w1.cell? ⟨w.heap.size, 1, none⟩ = some (.string (str hi)) := hr1.cell 1
    have HS1 := Lib.hid (((Same.refl (fun _ => True) w).alloc (.cells #[.string (str lo), .string (str hi)] 53)).trans hS1)
    clear hS1 hr1
    go_wp2_with (go_at_call 68; refine stopAt ?_)
    unfold Hid
    refine (g2 _ (Hv.out.keepAll HS1.out)).mono ?_
    rintro e w2 ⟨rfl, hS2⟩
    have HS2 := Lib.hid (HS1.out.trans hS2)
    clear hS2
    have x1 : (0 : Int) ≤ (p : Int) := by omega
    have x2 : (p : Int) ≤ (q : Int) := by omega
    have x3 : (q : Int) ≤ (cp : Int) := by omega
    have hmx : (max (q : Int) (p : Int)).toNat = q := by omega
    have hcut := (Hv.out.keepAll HS2.out).cut hle hle2
    rw [← HK.out] at hcut
    have Hcut := Lib.hid hcut
    have Hmx := Lib.hid hmx
    clear hcut hmx
    by_cases h : cp = p
    · subst h
      go_wp2
      go_ret
      refine ⟨⟨_, rfl, ?_⟩, HS2.out⟩
      have := Hcut.out
      simp only [if_true, Nat.sub_self] at this
      rw [Hmx.out]
      exact this
    · go_wp2
      go_ret
      refine ⟨⟨_, rfl, ?_⟩, HS2.out⟩
      have := Hcut.out
      rw [if_neg h] at this
      rw [Hmx.out]
      exact this
end Go.Proofs.Ytoldelocfmpccaa
namespace Go.Proofs.Ytoldelocfmpccaa
open Go.RowKit
theorem lck_set9 {w wr : World} {g : Nat} {a0 a1 a2 a3 a4 a5 a6 a7 a8 b0 b1 b2 b3 b4 b5 b6 b7 b8 : Value} (hg : w.heap.size ≤ g) (HR : Row wr g 30 [a0, a1, a2, a3, a4, a5, a6, a7, a8]) (HS : Same (fun _ => True) w wr) :
    Row (((((((((wr.setCell ⟨g, 0, none⟩ b0).setCell ⟨g, 1, none⟩ b1).setCell ⟨g, 2, none⟩ b2).setCell ⟨g, 3, none⟩ b3).setCell ⟨g, 4, none⟩ b4).setCell ⟨g, 5, none⟩ b5).setCell ⟨g, 6, none⟩ b6).setCell ⟨g, 7, none⟩ b7).setCell ⟨g, 8, none⟩ b8) g 30 [b0, b1, b2, b3, b4, b5, b6, b7, b8] ∧ Same (fun _ => True) w (((((((((wr.setCell ⟨g, 0, none⟩ b0).setCell ⟨g, 1, none⟩ b1).setCell ⟨g, 2, none⟩ b2).setCell ⟨g, 3, none⟩ b3).setCell ⟨g, 4, none⟩ b4).setCell ⟨g, 5, none⟩ b5).setCell ⟨g, 6, none⟩ b6).setCell ⟨g, 7, none⟩ b7).setCell ⟨g, 8, none⟩ b8) :=
  ⟨(((((((((HR.set_ 0 b0).set_ 1 b1).set_ 2 b2).set_ 3 b3).set_ 4 b4).set_ 5 b5).set_ 6 b6).set_ 7 b7).set_ 8 b8), (((((((((HS.setCell (fun h => absurd h (by simp; omega)) _).setCell (fun h => absurd h (by simp; omega)) _).setCell (fun h => absurd h (by simp; omega)) _).setCell (fun h => absurd h (by simp; omega)) _).setCell (fun h => absurd h (by simp; omega)) _).setCell (fun h => absurd h (by simp; omega)) _).setCell (fun h => absurd h (by simp; omega)) _).setCell (fun h => absurd h (by simp; omega)) _).setCell (fun h => absurd h (by simp; omega)) _)⟩
theorem lck_cells {w : World} {g : Nat} {a0 a1 a2 a3 a4 a5 a6 a7 a8 : Value} (h : Row w g 30 [a0, a1, a2, a3, a4, a5, a6, a7, a8]) : w.cell? ⟨g, 0, none⟩ = some a0 ∧ w.cell? ⟨g, 1, none⟩ = some a1 ∧ w.cell? ⟨g, 2, none⟩ = some a2 ∧ w.cell? ⟨g, 3, none⟩ = some a3 ∧ w.cell? ⟨g, 4, none⟩ = some a4 ∧ w.cell? ⟨g, 5, none⟩ = some a5 ∧ w.cell? ⟨g, 6, none⟩ = some a6 ∧ w.cell? ⟨g, 7, none⟩ = some a7 ∧ w.cell? ⟨g, 8, none⟩ = some a8 ∧ w.frozen? ⟨g, 0, none⟩ = false ∧ w.frozen? ⟨g, 1, none⟩ = false ∧ w.frozen? ⟨g, 2, none⟩ = false ∧ w.frozen? ⟨g, 3, none⟩ = false ∧ w.frozen? ⟨g, 4, none⟩ = false ∧ w.frozen? ⟨g, 5, none⟩ = false ∧ w.frozen? ⟨g, 6, none⟩ = false ∧ w.frozen? ⟨g, 7, none⟩ = false ∧ w.frozen? ⟨g, 8, none⟩ = false :=
  ⟨h.cell 0, h.cell 1, h.cell 2, h.cell 3, h.cell 4, h.cell 5, h.cell 6, h.cell 7, h.cell 8, h.frozen 0, h.frozen 1, h.frozen 2, h.frozen 3, h.frozen 4, h.frozen 5, h.frozen 6, h.frozen 7, h.frozen 8⟩
theorem held_results {W : World} {k : Nat} {l : Lck} {b : Bool} (R : Row W k 30 (lckCs l)) {tmps : Array Value}
    (h2 : tmps.getD 4 undef = .pointer (some ⟨k, 0, none⟩)) (h3 : tmps.getD 5 undef = .bool b) :
    (results Try.f30 tmps).run Try.prog W = .ok (.tuple #[lckV l, .bool b]) W := by
  have d0 : W.cell? ⟨k, 0, none⟩ = some (.int .i64 l.by_.node) := R.cell 0
  have d1 : W.cell? ⟨k, 1, none⟩ = some (.int .i64 l.by_.life) := R.cell 1
  have d2 : W.cell? ⟨k, 2, none⟩ = some (.int .i64 l.by_.seq) := R.cell 2
  have d3 : W.cell? ⟨k, 3, none⟩ = some (.int .i64 l.by_.attempt) := R.cell 3
  have d4 : W.cell? ⟨k, 4, none⟩ = some (.int .i64 l.home) := R.cell 4
  have d5 : W.cell? ⟨k, 5, none⟩ = some (.int .i64 l.at_.wall) := R.cell 5
  have d6 : W.cell? ⟨k, 6, none⟩ = some (.int .i64 l.at_.tie) := R.cell 6
  have d7 : W.cell? ⟨k, 7, none⟩ = some (.bool l.drop) := R.cell 7
  have d8 : W.cell? ⟨k, 8, none⟩ = some (.string (str l.data)) := R.cell 8
  simp at h2 h3
  simp [results, Try.results30, h2, h3, go_sem, d0, d1, d2, d3, d4, d5, d6, d7, d8]
theorem refheld_results {W : World} {k : Nat} {l : Lck} {b : Bool} (R : Row W k 30 (lckCs l)) {tmps : Array Value}
    (h2 : tmps.getD 4 undef = .pointer (some ⟨k, 0, none⟩)) (h3 : tmps.getD 5 undef = .bool b) :
    (results Try.f57 tmps).run Try.prog W = .ok (.tuple #[lckV l, .bool b]) W := by
  have d0 : W.cell? ⟨k, 0, none⟩ = some (.int .i64 l.by_.node) := R.cell 0
  have d1 : W.cell? ⟨k, 1, none⟩ = some (.int .i64 l.by_.life) := R.cell 1
  have d2 : W.cell? ⟨k, 2, none⟩ = some (.int .i64 l.by_.seq) := R.cell 2
  have d3 : W.cell? ⟨k, 3, none⟩ = some (.int .i64 l.by_.attempt) := R.cell 3
  have d4 : W.cell? ⟨k, 4, none⟩ = some (.int .i64 l.home) := R.cell 4
  have d5 : W.cell? ⟨k, 5, none⟩ = some (.int .i64 l.at_.wall) := R.cell 5
  have d6 : W.cell? ⟨k, 6, none⟩ = some (.int .i64 l.at_.tie) := R.cell 6
  have d7 : W.cell? ⟨k, 7, none⟩ = some (.bool l.drop) := R.cell 7
  have d8 : W.cell? ⟨k, 8, none⟩ = some (.string (str l.data)) := R.cell 8
  simp at h2 h3
  simp [results, Try.results57, h2, h3, go_sem, d0, d1, d2, d3, d4, d5, d6, d7, d8]
/-- A key's lock. -/
def heldF (cs : List Cel) (key : List UInt8) : Lck × Bool := match cs[posF cs key]? with | some c => if foundF cs key && c.locked then (c.lock, true) else (Lck.zero, false) | none => (Lck.zero, false)
def LckP (r : Lck × Bool) (w : World) (e : Ending) (w' : World) : Prop := e = .returned (.tuple #[lckV r.1, .bool r.2]) ∧ Same (fun _ => True) w w'
theorem heldF_miss {cs : List Cel} {key : List UInt8} (h : foundF cs key = false) : heldF cs key = (Lck.zero, false) := by
  unfold heldF
  cases cs[posF cs key]? with
  | none => rfl
  | some c => simp [h]
theorem heldF_hit {cs : List Cel} {key : List UInt8} (h : foundF cs key = true) (hp : posF cs key < cs.length) : heldF cs key = if cs[posF cs key].locked then (cs[posF cs key].lock, true) else (Lck.zero, false) := by
  unfold heldF
  rw [List.getElem?_eq_getElem hp]
  simp [h]
set_option maxHeartbeats 1000000 in
theorem mvheld_any (v : Value) (cs : List Cel) (key : List UInt8) (S : Nat → Prop) (w : World) (hv : CelR w S v cs) (hso : Sorted cs) (hn : cs.length ≤ 1000000) :
    Calls Try.prog 30 #[v, .string (str key)] w (LckP (heldF cs key) w) := by
  obtain ⟨A, cp, rfl, hc, hm⟩ := hv.form
  have Hv := Lib.hid hv
  unfold maxLen at hm
  have hrow0 := Row.new w 30 (lckCs Lck.zero)
  have Hrow0 := Lib.hid hrow0
  cases hf : foundF cs key
  · have g := fun W h => mvfind_any (.slice A cs.length cp) cs key S W h hso hn
    rw [hf] at g
    have K := heldF_miss hf
    have HK := Lib.hid K
    clear K hf hv hrow0 hso
    go_enter Try.func30, Try.ntmps30
    go_wp2_with (go_at_call 68; refine stopAt ?_)
    unfold Hid
    refine (g _ (Hv.out.keepAll ((Same.refl _ _).alloc _))).mono ?_
    rintro e w1 ⟨rfl, hS⟩
    skip
    have hr1 := Hrow0.out.keep hS trivial
    have Hr1 := Lib.hid hr1
    have HS := Lib.hid (((Same.refl (fun _ => True) w).alloc (.cells (lckCs Lck.zero).toArray 30)).trans hS)
    obtain ⟨a0, a1, a2, a3, a4, a5, a6, a7, a8, f0, f1, f2, f3, f4, f5, f6, f7, f8⟩ := lck_cells hr1
    simp only [Lck.zero] at a0 a1 a2 a3 a4 a5 a6 a7 a8
    have z1 := hr1.lt
    clear hS hr1
    go_wp2
    obtain ⟨r1, r2⟩ := lck_set9 (b0 := .int .i64 0) (b1 := .int .i64 0) (b2 := .int .i64 0) (b3 := .int .i64 0) (b4 := .int .i64 0) (b5 := .int .i64 0) (b6 := .int .i64 0) (b7 := .bool false) (b8 := .string ⟨#[]⟩) (Nat.le_refl _) Hr1.out HS.out
    rw [HK.out]
    exact bodyPost_ret (held_results (l := Lck.zero) r1 rfl rfl) rfl ⟨rfl, r2⟩
  · obtain ⟨hp, -⟩ := found_at hf
    have K := heldF_hit hf hp
    have HK := Lib.hid K
    have g := fun W h => mvfind_any (.slice A cs.length cp) cs key S W h hso hn
    rw [hf] at g
    clear K hf hv hrow0 hso
    generalize posF cs key = p at *
    go_enter Try.func30, Try.ntmps30
    go_wp2_with (go_at_call 68; refine stopAt ?_)
    unfold Hid
    refine (g _ (Hv.out.keepAll ((Same.refl _ _).alloc _))).mono ?_
    rintro e w1 ⟨rfl, hS⟩
    skip
    have hr1 := Hrow0.out.keep hS trivial
    have Hr1 := Lib.hid hr1
    have hS1 := ((Same.refl (fun _ => True) w).alloc (.cells (lckCs Lck.zero).toArray 30)).trans hS
    have HS := Lib.hid hS1
    obtain ⟨a0, a1, a2, a3, a4, a5, a6, a7, a8, f0, f1, f2, f3, f4, f5, f6, f7, f8⟩ := lck_cells hr1
    simp only [Lck.zero] at a0 a1 a2 a3 a4 a5 a6 a7 a8
    have z1 := hr1.lt
    obtain ⟨ad, u, rfl, -, -, c0, c1, c2, c3, c4, c5, c6, c7, c8, c9, c10, c11⟩ := CelR.cells12 (Hv.out.keepAll hS1) hp
    have x1 : (0 : Int) ≤ (p : Int) := by omega
    have x2 : (p : Int) < (cs.length : Int) := by omega
    have x3 : ¬ (p : Int) < 0 := by omega
    have x4 : decide ((p : Int) < 0) = false := decide_eq_false x3
    generalize cs[p] = c at *
    clear hS hS1 hr1 g
    cases hl : c.locked
    · rw [hl] at c2 HK
      clear hl
      go_wp2
      obtain ⟨r1, r2⟩ := lck_set9 (b0 := .int .i64 0) (b1 := .int .i64 0) (b2 := .int .i64 0) (b3 := .int .i64 0) (b4 := .int .i64 0) (b5 := .int .i64 0) (b6 := .int .i64 0) (b7 := .bool false) (b8 := .string ⟨#[]⟩) (Nat.le_refl _) Hr1.out HS.out
      rw [HK.out]
      exact bodyPost_ret (held_results (l := Lck.zero) r1 rfl rfl) rfl ⟨rfl, r2⟩
    · rw [hl] at c2 HK
      clear hl
      go_wp2
      obtain ⟨r1, r2⟩ := lck_set9 (b0 := .int .i64 c.lock.by_.node) (b1 := .int .i64 c.lock.by_.life) (b2 := .int .i64 c.lock.by_.seq) (b3 := .int .i64 c.lock.by_.attempt) (b4 := .int .i64 c.lock.home) (b5 := .int .i64 c.lock.at_.wall) (b6 := .int .i64 c.lock.at_.tie) (b7 := .bool c.lock.drop) (b8 := .string (str c.lock.data)) (Nat.le_refl _) Hr1.out HS.out
      rw [HK.out]
      exact bodyPost_ret (held_results (l := c.lock) r1 rfl rfl) rfl ⟨rfl, r2⟩
set_option maxHeartbeats 1000000 in
theorem refheld_any (v : Value) (cs : List Cel) (key : List UInt8) (S : Nat → Prop) (w : World) (hv : CelR w S v cs) (hso : Sorted cs) (hn : cs.length ≤ 1000000) :
    Calls Try.prog 57 #[v, .string (str key)] w (LckP (heldF cs key) w) := by
  obtain ⟨A, cp, rfl, hc, hm⟩ := hv.form
  have Hv := Lib.hid hv
  unfold maxLen at hm
  have hrow0 := Row.new w 30 (lckCs Lck.zero)
  have Hrow0 := Lib.hid hrow0
  cases hf : foundF cs key
  · have g := fun W h => (reffind_any (.slice A cs.length cp) cs key S W h hso)
    rw [hf] at g
    simp only [Bool.false_eq_true, if_false] at g
    have K := heldF_miss hf
    have HK := Lib.hid K
    clear K hf hv hrow0 hso
    go_enter Try.func57, Try.ntmps57
    go_wp2_with (go_at_call 89; refine stopAt ?_)
    unfold Hid
    refine (g _ (Hv.out.keepAll ((Same.refl _ _).alloc _))).mono ?_
    rintro e w1 ⟨rfl, hw1⟩
    have hS : Same (fun _ => True) (w.alloc (.cells (lckCs Lck.zero).toArray 30)) w1 := by rw [← hw1]; exact Same.refl _ _
    clear hw1
    have _u := Same.refl (fun _ => True) (w.alloc (.cells (lckCs Lck.zero).toArray 30))
    have hr1 := Hrow0.out.keep hS trivial
    have Hr1 := Lib.hid hr1
    have HS := Lib.hid (((Same.refl (fun _ => True) w).alloc (.cells (lckCs Lck.zero).toArray 30)).trans hS)
    obtain ⟨a0, a1, a2, a3, a4, a5, a6, a7, a8, f0, f1, f2, f3, f4, f5, f6, f7, f8⟩ := lck_cells hr1
    simp only [Lck.zero] at a0 a1 a2 a3 a4 a5 a6 a7 a8
    have z1 := hr1.lt
    clear hS hr1
    go_wp2
    obtain ⟨r1, r2⟩ := lck_set9 (b0 := .int .i64 0) (b1 := .int .i64 0) (b2 := .int .i64 0) (b3 := .int .i64 0) (b4 := .int .i64 0) (b5 := .int .i64 0) (b6 := .int .i64 0) (b7 := .bool false) (b8 := .string ⟨#[]⟩) (Nat.le_refl _) Hr1.out HS.out
    rw [HK.out]
    exact bodyPost_ret (refheld_results (l := Lck.zero) r1 rfl rfl) rfl ⟨rfl, r2⟩
  · obtain ⟨hp, -⟩ := found_at hf
    have K := heldF_hit hf hp
    have HK := Lib.hid K
    have g := fun W h => (reffind_any (.slice A cs.length cp) cs key S W h hso)
    rw [hf] at g
    simp only [if_true] at g
    clear K hf hv hrow0 hso
    generalize posF cs key = p at *
    go_enter Try.func57, Try.ntmps57
    go_wp2_with (go_at_call 89; refine stopAt ?_)
    unfold Hid
    refine (g _ (Hv.out.keepAll ((Same.refl _ _).alloc _))).mono ?_
    rintro e w1 ⟨rfl, hw1⟩
    have hS : Same (fun _ => True) (w.alloc (.cells (lckCs Lck.zero).toArray 30)) w1 := by rw [← hw1]; exact Same.refl _ _
    clear hw1
    have _u := Same.refl (fun _ => True) (w.alloc (.cells (lckCs Lck.zero).toArray 30))
    have hr1 := Hrow0.out.keep hS trivial
    have Hr1 := Lib.hid hr1
    have hS1 := ((Same.refl (fun _ => True) w).alloc (.cells (lckCs Lck.zero).toArray 30)).trans hS
    have HS := Lib.hid hS1
    obtain ⟨a0, a1, a2, a3, a4, a5, a6, a7, a8, f0, f1, f2, f3, f4, f5, f6, f7, f8⟩ := lck_cells hr1
    simp only [Lck.zero] at a0 a1 a2 a3 a4 a5 a6 a7 a8
    have z1 := hr1.lt
    obtain ⟨ad, u, rfl, -, -, c0, c1, c2, c3, c4, c5, c6, c7, c8, c9, c10, c11⟩ := CelR.cells12 (Hv.out.keepAll hS1) hp
    have x1 : (0 : Int) ≤ (p : Int) := by omega
    have x2 : (p : Int) < (cs.length : Int) := by omega
    have x3 : ¬ (p : Int) < 0 := by omega
    have x4 : decide ((p : Int) < 0) = false := decide_eq_false x3
    generalize cs[p] = c at *
    clear hS hS1 hr1 g
    cases hl : c.locked
    · rw [hl] at c2 HK
      clear hl
      go_wp2
      obtain ⟨r1, r2⟩ := lck_set9 (b0 := .int .i64 0) (b1 := .int .i64 0) (b2 := .int .i64 0) (b3 := .int .i64 0) (b4 := .int .i64 0) (b5 := .int .i64 0) (b6 := .int .i64 0) (b7 := .bool false) (b8 := .string ⟨#[]⟩) (Nat.le_refl _) Hr1.out HS.out
      rw [HK.out]
      exact bodyPost_ret (refheld_results (l := Lck.zero) r1 rfl rfl) rfl ⟨rfl, r2⟩
    · rw [hl] at c2 HK
      clear hl
      go_wp2
      obtain ⟨r1, r2⟩ := lck_set9 (b0 := .int .i64 c.lock.by_.node) (b1 := .int .i64 c.lock.by_.life) (b2 := .int .i64 c.lock.by_.seq) (b3 := .int .i64 c.lock.by_.attempt) (b4 := .int .i64 c.lock.home) (b5 := .int .i64 c.lock.at_.wall) (b6 := .int .i64 c.lock.at_.tie) (b7 := .bool c.lock.drop) (b8 := .string (str c.lock.data)) (Nat.le_refl _) Hr1.out HS.out
      rw [HK.out]
      exact bodyPost_ret (refheld_results (l := c.lock) r1 rfl rfl) rfl ⟨rfl, r2⟩
end Go.Proofs.Ytoldelocfmpccaa
namespace Go.Proofs.Ytoldelocfmpccaa
open Go.RowKit
theorem blocks_results {W : World} {k : Nat} {l : Lck} {b : Bool} (R : Row W k 30 (lckCs l)) {tmps : Array Value}
    (h2 : tmps.getD 6 undef = .pointer (some ⟨k, 0, none⟩)) (h3 : tmps.getD 7 undef = .bool b) :
    (results Try.f74 tmps).run Try.prog W = .ok (.tuple #[lckV l, .bool b]) W := by
  have d0 : W.cell? ⟨k, 0, none⟩ = some (.int .i64 l.by_.node) := R.cell 0
  have d1 : W.cell? ⟨k, 1, none⟩ = some (.int .i64 l.by_.life) := R.cell 1
  have d2 : W.cell? ⟨k, 2, none⟩ = some (.int .i64 l.by_.seq) := R.cell 2
  have d3 : W.cell? ⟨k, 3, none⟩ = some (.int .i64 l.by_.attempt) := R.cell 3
  have d4 : W.cell? ⟨k, 4, none⟩ = some (.int .i64 l.home) := R.cell 4
  have d5 : W.cell? ⟨k, 5, none⟩ = some (.int .i64 l.at_.wall) := R.cell 5
  have d6 : W.cell? ⟨k, 6, none⟩ = some (.int .i64 l.at_.tie) := R.cell 6
  have d7 : W.cell? ⟨k, 7, none⟩ = some (.bool l.drop) := R.cell 7
  have d8 : W.cell? ⟨k, 8, none⟩ = some (.string (str l.data)) := R.cell 8
  simp at h2 h3
  simp [results, Try.results74, h2, h3, go_sem, d0, d1, d2, d3, d4, d5, d6, d7, d8]
def blockGo (a : St) : List Cel → Lck × Bool
  | [] => (Lck.zero, false)
  | c :: cs => if c.locked && !lessB a c.lock.at_ then (c.lock, true) else blockGo a cs
def blocksF (cs : List Cel) (lo hi : List UInt8) (a : St) : Lck × Bool := blockGo a (withinF cs lo hi)
theorem blockGo_step {a : St} {cs : List Cel} {k : Nat} (h : k < cs.length) : blockGo a (cs.drop k) = if cs[k].locked && !lessB a cs[k].lock.at_ then (cs[k].lock, true) else blockGo a (cs.drop (k + 1)) := by
  rw [List.drop_eq_getElem_cons h]
  rfl
/-- What Blocks' loop holds. -/
def BlkRel (R : Lck × Bool) (a : St) (L : List Cel) (k p : Nat) (w w2 wr : World) : Prop :=
  k ≤ L.length ∧ blockGo a (L.drop k) = R ∧ Row wr (p + 1) 28 (stCs a) ∧ Row wr (p + 1 + 1) 30 (lckCs Lck.zero) ∧ Same (fun _ => True) w2 wr ∧ Same (fun _ => True) w wr
set_option maxHeartbeats 2000000 in
theorem mvblocks_any (v : Value) (cs : List Cel) (lo hi : List UInt8) (a : St) (S : Nat → Prop) (w : World) (hv : CelR w S v cs) (hso : Sorted cs) (hn : cs.length ≤ 1000000) :
    Calls Try.prog 74 #[v, .agg #[.string (str lo), .string (str hi)], stV a] w (LckP (blocksF cs lo hi a) w) := by
  obtain ⟨A, cp, rfl, hc, hm⟩ := hv.form
  have Hv := Lib.hid hv
  unfold maxLen at hm
  obtain ⟨L, hL⟩ : ∃ L, withinF cs lo hi = L := ⟨_, rfl⟩
  obtain ⟨R, hR⟩ : ∃ R, blockGo a L = R := ⟨_, rfl⟩
  have K : blocksF cs lo hi a = R := by unfold blocksF; rw [hL, hR]
  rw [K]
  have g := fun W h => within_any (.slice A cs.length cp) cs lo hi S W h hso hn
  rw [hL] at g
  have HR := Lib.hid hR
  obtain ⟨W0, hW0⟩ : ∃ W0, W0 = ((w.alloc (.cells #[.string (str lo), .string (str hi)] 53)).alloc (.cells (stCs a).toArray 28)).alloc (.cells (lckCs Lck.zero).toArray 30) := ⟨_, rfl⟩
  have hS0 : Same (fun _ => True) w W0 := by rw [hW0]; exact (((Same.refl _ _).alloc _).alloc _).alloc _
  have hr1 : Row W0 (w.heap.size + 1) 28 (stCs a) := by
    have := (Row.new (w.alloc (.cells #[.string (str lo), .string (str hi)] 53)) 28 (stCs a)).keep ((Same.refl (fun _ => True) _).alloc (.cells (lckCs Lck.zero).toArray 30)) trivial
    rw [World.size_alloc] at this
    rw [hW0]; exact this
  have hr2 : Row W0 (w.heap.size + 1 + 1) 30 (lckCs Lck.zero) := by
    have := Row.new ((w.alloc (.cells #[.string (str lo), .string (str hi)] 53)).alloc (.cells (stCs a).toArray 28)) 30 (lckCs Lck.zero)
    rw [World.size_alloc, World.size_alloc] at this
    rw [hW0]; exact this
  have HS0 := Lib.hid hS0
  have Hr1 := Lib.hid hr1
  have Hr2 := Lib.hid hr2
  have HW0 := Lib.hid hW0
  clear K hL hR hv hso hW0 hS0 hr1 hr2
  go_enter Try.func74, Try.ntmps74
  go_wp2_with (go_at_call 73; refine stopAt ?_)
  unfold Hid
  have e0 := HW0.out
  simp only [stCs, lckCs, Lck.zero] at e0
  rw [show (str []) = (⟨#[]⟩ : ByteArray) from rfl] at e0
  rw [← e0]
  clear e0
  refine (g _ (Hv.out.keepAll HS0.out)).mono ?_
  rintro e w2 ⟨⟨v', rfl, hcr⟩, hS2⟩
  obtain ⟨A2, cp2, rfl, hc2, hm2⟩ := hcr.form
  unfold maxLen at hm2
  have Hcr := Lib.hid hcr
  have HS2 := Lib.hid hS2
  clear hcr hS2 g
  go_wp2
  go_loopw [9, 14] (fun _ i wr => ∃ k : Nat, i = .int .i64 k ∧ BlkRel R a L k w.heap.size w w2 wr) (fun _ i _ => L.length - (intOf i).toNat)
  case atStart => exact ⟨0, rfl, Nat.zero_le _, HR.out, Hr1.out.keep HS2.out trivial, Hr2.out.keep HS2.out trivial, Same.refl _ _, HS0.out.trans HS2.out⟩
  case round =>
    obtain ⟨k, rfl, hk, hgo, hr1, hr2, hS3, hS4⟩ := hrel
    have Hr1 := Lib.hid hr1
    have Hr2 := Lib.hid hr2
    have HS3 := Lib.hid hS3
    have HS4 := Lib.hid hS4
    have s0 : wr.cell? ⟨w.heap.size + 1, 0, none⟩ = some (.int .i64 a.wall) := hr1.cell 0
    have s1 : wr.cell? ⟨w.heap.size + 1, 1, none⟩ = some (.int .i64 a.tie) := hr1.cell 1
    obtain ⟨a0, a1, a2, a3, a4, a5, a6, a7, a8, f0, f1, f2, f3, f4, f5, f6, f7, f8⟩ := lck_cells hr2
    simp only [Lck.zero] at a0 a1 a2 a3 a4 a5 a6 a7 a8
    have z1 := hr1.lt
    have z2 := hr2.lt
    by_cases hlt : k < L.length
    · obtain ⟨ad, u, rfl, -, hvr, c0, c1, c2, c3, c4, c5, c6, c7, c8, c9, c10, c11⟩ := CelR.cells12 (Hcr.out.keepAll hS3) hlt
      have x1 : (0 : Int) ≤ (k : Int) := by omega
      have x2 : (k : Int) < (L.length : Int) := by omega
      obtain ⟨Au, cu, rfl, -, -⟩ := hvr.form
      have hab := World.block_lt_of_cell? wr _ c0
      rw [blockGo_step hlt] at hgo
      clear hvr
      generalize L[k] = c at *
      have hrow := Row.new wr 64 (celCs (.slice Au c.vers.length cu, c))
      have Hrow := Lib.hid hrow
      clear hr1 hr2 hS3 hS4 hrow
      cases hl : c.locked
      · rw [hl] at c2 hgo
        have Hgo := Lib.hid hgo
        clear hl hgo
        go_wp2
        go_roundw
        case rel => exact ⟨k + 1, by go_num, by omega, Hgo.out, Hr1.out.keep ((Same.refl (fun _ => True) _).alloc _) trivial, Hr2.out.keep ((Same.refl (fun _ => True) _).alloc _) trivial, HS3.out.alloc _, HS4.out.alloc _⟩
        case measure => simp [intOf]; omega
      · have gl := fun W => stless_any a c.lock.at_ W
        cases hb : lessB a c.lock.at_
        · rw [hb] at gl hgo
          rw [hl] at c2 hgo
          have Hgo := Lib.hid hgo
          have Hl := Lib.hid hl
          clear hl hb hgo
          go_wp2_with (go_at_call 71; refine stopAt ?_)
          unfold Hid
          refine (gl _).mono ?_
          rintro e w5 ⟨rfl, hS5⟩
          have hS5' : Same (fun _ => True) (wr.alloc (.cells (celCs (.slice Au c.vers.length cu, c)).toArray 64)) w5 := by
            simp only [celCs, lckCs, Hl.out]
            exact hS5
          replace hS5 := hS5'
          clear hS5'
          have hrow5 := Hrow.out.keep hS5 trivial
          have y2 : w5.cell? ⟨wr.heap.size, 2, none⟩ = some (.bool c.locked) := hrow5.cell 2
          have y3 : w5.cell? ⟨wr.heap.size, 3, none⟩ = some (.int .i64 c.lock.by_.node) := hrow5.cell 3
          have y4 : w5.cell? ⟨wr.heap.size, 4, none⟩ = some (.int .i64 c.lock.by_.life) := hrow5.cell 4
          have y5 : w5.cell? ⟨wr.heap.size, 5, none⟩ = some (.int .i64 c.lock.by_.seq) := hrow5.cell 5
          have y6 : w5.cell? ⟨wr.heap.size, 6, none⟩ = some (.int .i64 c.lock.by_.attempt) := hrow5.cell 6
          have y7 : w5.cell? ⟨wr.heap.size, 7, none⟩ = some (.int .i64 c.lock.home) := hrow5.cell 7
          have y8 : w5.cell? ⟨wr.heap.size, 8, none⟩ = some (.int .i64 c.lock.at_.wall) := hrow5.cell 8
          have y9 : w5.cell? ⟨wr.heap.size, 9, none⟩ = some (.int .i64 c.lock.at_.tie) := hrow5.cell 9
          have y10 : w5.cell? ⟨wr.heap.size, 10, none⟩ = some (.bool c.lock.drop) := hrow5.cell 10
          have y11 : w5.cell? ⟨wr.heap.size, 11, none⟩ = some (.string (str c.lock.data)) := hrow5.cell 11
          have hS6 := ((Same.refl (fun _ => True) wr).alloc (.cells (celCs (.slice Au c.vers.length cu, c)).toArray 64)).trans hS5
          have HS6 := Lib.hid (HS4.out.trans hS6)
          have Hr6 := Lib.hid (Hr2.out.keep hS6 trivial)
          clear a0 a1 a2 a3 a4 a5 a6 a7 a8 f0 f1 f2 f3 f4 f5 f6 f7 f8 s0 s1 c0 c1 c2 c3 c4 c5 c6 c7 c8 c9 c10 c11
          obtain ⟨a0, a1, a2, a3, a4, a5, a6, a7, a8, f0, f1, f2, f3, f4, f5, f6, f7, f8⟩ := lck_cells Hr6.out
          simp only [Lck.zero] at a0 a1 a2 a3 a4 a5 a6 a7 a8
          have z6 := hrow5.lt
          clear hrow5 hS5 hS6
          go_wp2
          obtain ⟨r1, r2⟩ := lck_set9 (b0 := .int .i64 c.lock.by_.node) (b1 := .int .i64 c.lock.by_.life) (b2 := .int .i64 c.lock.by_.seq) (b3 := .int .i64 c.lock.by_.attempt) (b4 := .int .i64 c.lock.home) (b5 := .int .i64 c.lock.at_.wall) (b6 := .int .i64 c.lock.at_.tie) (b7 := .bool c.lock.drop) (b8 := .string (str c.lock.data)) (by omega) Hr6.out HS6.out
          rw [← Hgo.out]
          exact bodyPost_ret (blocks_results (l := c.lock) r1 rfl rfl) rfl ⟨rfl, r2⟩
        · rw [hb] at gl hgo
          rw [hl] at c2 hgo
          have Hgo := Lib.hid hgo
          have Hl := Lib.hid hl
          clear hl hb hgo
          go_wp2_with (go_at_call 71; refine stopAt ?_)
          unfold Hid
          refine (gl _).mono ?_
          rintro e w5 ⟨rfl, hS5⟩
          have hS5' : Same (fun _ => True) (wr.alloc (.cells (celCs (.slice Au c.vers.length cu, c)).toArray 64)) w5 := by
            simp only [celCs, lckCs, Hl.out]
            exact hS5
          replace hS5 := hS5'
          clear hS5'
          have hS6 := ((Same.refl (fun _ => True) wr).alloc (.cells (celCs (.slice Au c.vers.length cu, c)).toArray 64)).trans hS5
          have HS6 := Lib.hid hS6
          clear a0 a1 a2 a3 a4 a5 a6 a7 a8 f0 f1 f2 f3 f4 f5 f6 f7 f8 s0 s1 c0 c1 c2 c3 c4 c5 c6 c7 c8 c9 c10 c11 hS5 hS6
          go_wp2
          go_roundw
          case rel => exact ⟨k + 1, by go_num, by omega, Hgo.out, Hr1.out.keep HS6.out trivial, Hr2.out.keep HS6.out trivial, HS3.out.trans HS6.out, HS4.out.trans HS6.out⟩
          case measure => simp [intOf]; omega
    · obtain rfl : k = L.length := by omega
      rw [List.drop_eq_nil_of_le (Nat.le_refl _)] at hgo
      have hgo' : R = (Lck.zero, false) := hgo.symm
      have Hgo := Lib.hid hgo'
      clear hgo hgo' hr1 hr2 hS3 hS4
      go_wp2
      obtain ⟨r1, r2⟩ := lck_set9 (b0 := .int .i64 0) (b1 := .int .i64 0) (b2 := .int .i64 0) (b3 := .int .i64 0) (b4 := .int .i64 0) (b5 := .int .i64 0) (b6 := .int .i64 0) (b7 := .bool false) (b8 := .string ⟨#[]⟩) (by omega) Hr2.out HS4.out
      rw [Hgo.out]
      exact bodyPost_ret (blocks_results (l := Lck.zero) r1 rfl rfl) rfl ⟨rfl, r2⟩
end Go.Proofs.Ytoldelocfmpccaa
