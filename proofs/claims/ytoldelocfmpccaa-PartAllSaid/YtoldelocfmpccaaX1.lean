/-
  Words, plain models, laws and walks that the claims of this layer share (joined by shake.py). No condition.
-/
import Derived.WalkKit
import Derived.WalkSpells
import Derived.WalkLawsBesides
import Derived.ProofKit
import Derived.OpenShut
import Derived.ChangeOld
import Derived.Below
import Derived.Carry
import Derived.Deep.Slices
import Derived.Maps.AppendAt
import Derived.Deep.AppendLies
import Derived.RegionTactic
import Derived.OwnWalk
import Derived.Lib.Hide
import Derived.Laws.CopyOwn
import Derived.Laws.BytesArg
import Derived.Orders
import Derived.Laws.IdiomStrings
import Derived.Test.YtoldelocfmpccaaRows
import Derived.Outline
import Derived.Shelf.Small.Strs
import Derived.Test.YtoldelocfmpccaaProg
import Derived.Deep.QuietTactic
import Derived.BigQuiet
import Derived.Deep.RegionHeld3
set_option linter.unusedSimpArgs false
set_option linter.unusedVariables false
namespace Go.Proofs.Ytoldelocfmpccaa
open Go.RowKit Go.ChangeShapes Go.WideShapes Go.ChangeAt
def n8 (c : UInt8) : Int := c.toNat
abbrev V8 (c : UInt8) : Value := .int .u8 (n8 c)
theorem Qf {p : Prop} (h : Hid p) : p := h
structure Qa (S : Nat → Prop) (w w' : World) : Prop where
 os : w'.os = w.os
 tape : w'.tape = w.tape
 output : w'.output = w.output
 size : w.heap.size ≤ w'.heap.size
 block : ∀ k, k < w.heap.size → S k → w'.heap[k]? = w.heap[k]?
section
variable {S S' : Nat → Prop} {w w' w'' : World}
theorem Qa.refl (S : Nat → Prop) (w : World) : Qa S w w := ⟨rfl, rfl, rfl, Nat.le_refl _, fun _ _ _ => rfl⟩
theorem Qa.trans (h : Qa S w w') (k : Qa S w' w'') : Qa S w w'' :=
 ⟨k.os.trans h.os, k.tape.trans h.tape, k.output.trans h.output, Nat.le_trans h.size k.size, fun i hi hs => (k.block i (Nat.lt_of_lt_of_le hi h.size) hs).trans (h.block i hi hs)⟩
theorem Qa.trans' (h : Qa S w w') (k : Qa S' w' w'') (hs : ∀ i, i < w.heap.size → S i → S' i) : Qa S w w'' :=
 ⟨k.os.trans h.os, k.tape.trans h.tape, k.output.trans h.output, Nat.le_trans h.size k.size, fun i hi hS => (k.block i (Nat.lt_of_lt_of_le hi h.size) (hs i hi hS)).trans (h.block i hi hS)⟩
theorem Qa.mono (h : Qa S w w') (hs : ∀ i, i < w.heap.size → S' i → S i) : Qa S' w w' := ⟨h.os, h.tape, h.output, h.size, fun i hi hS => h.block i hi (hs i hi hS)⟩
theorem Qa.ofGrown {row : Option Nat} (h : w.grownBy w' row) : Qa (fun k => some k ≠ row) w w' := ⟨h.os, h.tape, h.output, h.size, fun i hi hs => h.block i hi hs⟩
theorem Qa.drew (h : Qa S w w') : Qa S w w'.drew := ⟨h.os, h.tape, h.output, h.size, h.block⟩
theorem Qa.drewN (h : Qa S w w') (n : Nat) : Qa S w (w'.drewN n) := ⟨h.os, h.tape, h.output, h.size, h.block⟩
theorem Qa.alloc (h : Qa S w w') (o : Obj) : Qa S w (w'.alloc o) :=
 h.trans ⟨rfl, rfl, rfl, by simp, fun k hk _ => Below.heap_alloc _ _ _ hk⟩
theorem Qa.setCell (h : Qa S w w') {p : Addr} (hp : p.block < w.heap.size → ¬ S p.block) (u : Value) : Qa S w (w'.setCell p u) :=
 ⟨h.os, h.tape, h.output, by have := h.size; simpa [World.setCell] using this, fun k hk hs => by
  rw [Below.heap_setCell _ _ _ _ (fun e => hp (e ▸ hk) (e ▸ hs))]; exact h.block k hk hs⟩
theorem Qa.cell (h : Qa S w w') {p : Addr} {v : Value} (hs : S p.block) (hc : w.cell? p = some v) : w'.cell? p = some v := by
 rw [World.cell?_of_block (w := w) (h.block p.block (World.block_lt_of_cell? w p hc) hs)]; exact hc
theorem Qa.frozen (h : Qa S w w') {p : Addr} (hp : p.block < w.heap.size) (hs : S p.block) : w'.frozen? p = w.frozen? p :=
 World.frozen?_of_block (w := w) (h.block p.block hp hs)
end
theorem QK (a : Addr) (n : Nat) : (a.add n).block = a.block := by unfold Addr.add; split <;> rfl
theorem JA (a : Addr) (i j : Nat) : (a.add i).add j = a.add (i + j) := by
 unfold Addr.add;by_cases hi : i = 0 <;> by_cases hj : j = 0 <;> simp [hi, hj, Nat.add_assoc]
def Sl (w : World) (S : Nat → Prop) (size : Nat) (A : Option Addr) (n : Nat) (xs : List Value) : Prop :=
 xs.length = n * size ∧ (0 < n → ∃ ad, A = some ad ∧ S ad.block ∧ ∀ j u, xs[j]? = some u → w.cell? (ad.add j) = some u)
section
variable {S S' : Nat → Prop} {w w' : World} {size n : Nat} {A : Option Addr} {xs : List Value}
theorem Sl.nil (w : World) (S : Nat → Prop) (size : Nat) (A : Option Addr) : Sl w S size A 0 [] := ⟨by simp, fun h => absurd h (by omega)⟩
theorem Sl.at_ {k : Nat} (h : Sl w S 1 A n xs) (hk : k < n) : ∃ ad u, A = some ad ∧ S ad.block ∧ xs[k]? = some u ∧ w.cell? (ad.add k) = some u := by
 obtain ⟨ad, e, hb, hc⟩ := h.2 (by omega);have hl : k < xs.length := by have := h.1; omega
 exact ⟨ad, xs[k], e, hb, List.getElem?_eq_getElem hl, hc k _ (List.getElem?_eq_getElem hl)⟩
theorem Sl.keep (h : Sl w S size A n xs) (hk : Qa S w w') : Sl w' S size A n xs :=
 ⟨h.1, fun hn => by
  obtain ⟨ad, e, hb, hc⟩ := h.2 hn
  exact ⟨ad, e, hb, fun j u hu => hk.cell (by rw [QK]; exact hb) (hc j u hu)⟩⟩
theorem Sl.mono (h : Sl w S size A n xs) (hs : ∀ k, k < w.heap.size → S k → S' k) (hz : 0 < size := by omega) : Sl w S' size A n xs :=
 ⟨h.1, fun hn => by
  obtain ⟨ad, e, hb, hc⟩ := h.2 hn;have hl : 0 < xs.length := by rw [h.1]; exact Nat.mul_pos hn hz
  have := World.block_lt_of_cell? w (ad.add 0) (hc 0 _ (List.getElem?_eq_getElem hl))
  exact ⟨ad, e, hs _ (by rw [QK] at this; exact this) hb, hc⟩⟩
theorem Sl.cut (h : Sl w S size A n xs) {k cap : Nat} (hk : k ≤ n) (hc : n ≤ cap) :
  Sl w S size (if cap = k then A else A.map (·.add (k * size))) (n - k) (xs.drop (k * size)) := by
 refine ⟨by rw [List.length_drop, h.1, Nat.sub_mul], fun hn => ?_⟩;obtain ⟨ad, rfl, hb, hcell⟩ := h.2 (by omega);rw [if_neg (by omega)];refine ⟨ad.add (k * size), rfl, by rw [QK]; exact hb, fun j u hu => ?_⟩;rw [JA];exact hcell _ u (by rw [← hu, List.getElem?_drop])
theorem Sl.take (h : Sl w S size A n xs) {k : Nat} (hk : k ≤ n) : Sl w S size A k (xs.take (k * size)) := by
 refine ⟨by rw [List.length_take, h.1, Nat.min_eq_left (Nat.mul_le_mul_right _ hk)], fun hn => ?_⟩;obtain ⟨ad, e, hb, hcell⟩ := h.2 (by omega);exact ⟨ad, e, hb, fun j u hu => hcell j u (by rw [List.getElem?_take] at hu; split at hu <;> simp_all)⟩
end
abbrev cs8 (bs : List UInt8) : List Value := bs.map V8
def By (w : World) (S : Nat → Prop) (v : Value) (bs : List UInt8) : Prop :=
 ∃ A c, v = .slice A bs.length c ∧ bs.length ≤ c ∧ c ≤ maxLen ∧ Sl w S 1 A bs.length (cs8 bs)
section
variable {S S' : Nat → Prop} {w w' : World} {v : Value} {bs : List UInt8}
theorem By.keep (h : By w S v bs) (hk : Qa S w w') : By w' S v bs := by
 obtain ⟨A, c, rfl, hc, hm, hs⟩ := h;exact ⟨A, c, rfl, hc, hm, hs.keep hk⟩
theorem By.mono (h : By w S v bs) (hs : ∀ k, k < w.heap.size → S k → S' k) : By w S' v bs := by
 obtain ⟨A, c, rfl, hc, hm, h2⟩ := h;exact ⟨A, c, rfl, hc, hm, h2.mono hs⟩
theorem By.keepAll (h : By w S v bs) (hk : Qa (fun _ => True) w w') : By w' S v bs := h.keep (hk.mono fun _ _ _ => trivial)
end
def ByL (w : World) (S : Nat → Prop) (v : Value) (l : List (List UInt8)) : Prop :=
 ∃ A c vs, v = .slice A l.length c ∧ l.length ≤ c ∧ c ≤ maxLen ∧ Sl w S 1 A l.length vs ∧ ∀ (i : Nat) (u : Value) (x : List UInt8), vs[i]? = some u → l[i]? = some x → By w S u x
section
variable {S S' : Nat → Prop} {w w' : World} {v : Value} {l : List (List UInt8)}
theorem ByL.keep (h : ByL w S v l) (hk : Qa S w w') : ByL w' S v l := by
 obtain ⟨A, c, vs, rfl, hc, hm, hs, he⟩ := h;exact ⟨A, c, vs, rfl, hc, hm, hs.keep hk, fun i u x hu hx => (he i u x hu hx).keep hk⟩
theorem ByL.mono (h : ByL w S v l) (hs : ∀ k, k < w.heap.size → S k → S' k) : ByL w S' v l := by
 obtain ⟨A, c, vs, rfl, hc, hm, h2, he⟩ := h;exact ⟨A, c, vs, rfl, hc, hm, h2.mono hs, fun i u x hu hx => (he i u x hu hx).mono hs⟩
theorem ByL.keepAll (h : ByL w S v l) (hk : Qa (fun _ => True) w w') : ByL w' S v l := h.keep (hk.mono fun _ _ _ => trivial)
end
theorem Zn {w : World} {o x : Obj} {k : Nat} (h : w.heap[k]? = some x) : (w.alloc o).heap[k]? = some x :=
 (heap_alloc_old w o (Array.getElem?_eq_some_iff.1 h).1).trans h
theorem Xn {w : World} {o : Obj} {k : Nat} (h : k = w.heap.size) : (w.alloc o).heap[k]? = some o := by subst h; exact heap_alloc_new w o
def Row (w : World) (g : Nat) (e : TypeId) (xs : List Value) : Prop := w.heap[g]? = some (.cells xs.toArray e (0, 0))
section
variable {S : Nat → Prop} {w w' : World} {g : Nat} {e : TypeId} {xs : List Value}
theorem Row.lt (h : Row w g e xs) : g < w.heap.size := by
 rcases Nat.lt_or_ge g w.heap.size with hlt | hge
 ·exact hlt
 ·unfold Row at h; rw [Array.getElem?_eq_none hge] at h; cases h
theorem Row.cell (h : Row w g e xs) (i : Nat) : w.cell? ⟨g, i, none⟩ = xs[i]? := by
 rw [cell_of_row w g i _ e (0, 0) h]; simp
theorem Row.frozen (h : Row w g e xs) (i : Nat) : w.frozen? ⟨g, i, none⟩ = false := by
 unfold Row at h;simp [World.frozen?, h]
theorem Row.new (w : World) (e : TypeId) (xs : List Value) : Row (w.alloc (.cells xs.toArray e)) w.heap.size e xs := heap_alloc_new w _
theorem Row.keep (h : Row w g e xs) (hk : Qa S w w') (hs : S g) : Row w' g e xs := (hk.block g h.lt hs).trans h
theorem Row.set_ (h : Row w g e xs) (i : Nat) (u : Value) : Row (w.setCell ⟨g, i, none⟩ u) g e (xs.set i u) := by
 unfold Row at h ⊢;simp [World.setCell, Array.getElem?_modify, h]
theorem Row.ne {g' : Nat} {e' : TypeId} {xs' : List Value} (h : Row w g e xs) (h' : Row w g' e' xs') (hne : e ≠ e') : g ≠ g' := by
 rintro rfl;unfold Row at h h';rw [h] at h';injection h' with h';injection h' with _ ht;exact hne ht
theorem Row.sl (h : Row w g e xs) {size off n : Nat} (hn : off + n * size ≤ xs.length) : Sl w (fun k => k = g) size (some ⟨g, off, none⟩) n ((xs.drop off).take (n * size)) := by
 refine ⟨by simp; omega, fun _ => ⟨_, rfl, rfl, fun j u hu => ?_⟩⟩;have e0 : (⟨g, off, none⟩ : Addr).add j = ⟨g, off + j, none⟩ := by unfold Addr.add; split <;> simp_all
 rw [e0, h.cell];rw [List.getElem?_take] at hu;split at hu
 ·simpa using hu
 ·simp at hu
theorem Row.owns (h : Row w g e xs) {base size n cap : Nat} (hb : base ≤ g) (hc : xs.length = cap * size) (hn : n ≤ cap) (hm : cap ≤ maxLen) :
  w.ownsRow base e size (.slice (some ⟨g, 0, none⟩) n cap) n (xs.take (n * size)) :=
 ⟨by rw [List.length_take, hc, Nat.min_eq_left (Nat.mul_le_mul_right _ hn)], .inr ⟨g, cap, xs.toArray, rfl, hb, h, hn, hm, by simpa using hc, rfl⟩⟩
end
theorem XQ {w : World} {base : Nat} {e : TypeId} {size : Nat} {v : Value} {n : Nat} {xs : List Value} (h : w.ownsRow base e size v n xs) :
  (v = .slice none 0 0 ∧ n = 0 ∧ xs = []) ∨ ∃ g cap cur, v = .slice (some ⟨g, 0, none⟩) n cap ∧ base ≤ g ∧ Row w g e cur ∧ n ≤ cap ∧ cap ≤ maxLen ∧ cur.length = cap * size ∧ cur.take (n * size) = xs := by
 rcases h.2 with ⟨h1, h2⟩ | ⟨g, cap, cur, h1, h2, h3, h4, h5, h6, h7⟩
 ·refine .inl ⟨h1, h2, ?_⟩;apply List.eq_nil_of_length_eq_zero; rw [h.1, h2]; simp
 ·exact .inr ⟨g, cap, cur.toList, h1, h2, by simpa [Row] using h3, h4, h5, by simpa using h6, h7⟩
theorem JW {S : Nat → Prop} {w w' : World} {base : Nat} {e : TypeId} {size : Nat} {v : Value} {n : Nat} {xs : List Value} (h : w.ownsRow base e size v n xs) (hk : Qa S w w') (hs : ∀ k, v.ownBlock = some k → S k) :
  w'.ownsRow base e size v n xs := by
 refine ⟨h.1, ?_⟩;rcases h.2 with hn | ⟨g, cap, cur, rfl, hb, hgg, rest⟩
 ·exact .inl hn
 ·refine .inr ⟨g, cap, cur, rfl, hb, ?_, rest⟩;rw [hk.block g (Array.getElem?_eq_some_iff.1 hgg).1 (hs g rfl)];exact hgg
theorem VC {w w' : World} {base : Nat} {e : TypeId} {size : Nat} {v : Value} {n : Nat} {xs : List Value} (h : w.ownsRow base e size v n xs) (hk : Qa (fun _ => True) w w') :
  w'.ownsRow base e size v n xs := JW h hk fun _ _ => trivial
structure SlT (P : Program) (t e : TypeId) (size bytes : Nat) (z : Value) : Prop where
 und : P.underlying t = some (.slice e)
 info : (P.info? e).map (fun i => (i.zero, i.size, i.bytes)) = some (some z, size, bytes)
 zs : z.cells.size = size
 pos : 0 < size
section
variable {P : Program} {t e : TypeId} {size bytes : Nat} {z : Value}
theorem Zu (T : SlT P t e size bytes z) (w : World) {ops : Array Oper} {rest : List Oper} {o : Oper} {a : Act} {Q : Exit → Act → World → Prop} (hgd : o.guard = none) (s x : Operand)
  (ho : o.op = .call { callee := .builtin .append, args := #[s, x], argTypes := #[t, t] })
  (base : Nat) (v : Value) (n : Nat) (xs : List Value) (hs : a.eval s = v) (hown : w.ownsRow base e size v n xs)
  (S : Nat → Prop) (A : Option Addr) (m c : Nat) (news : List Value) (hx : a.eval x = .slice A m c) (hr : Sl w S size A m news) (h1 : ∀ u ∈ news, u.oneCell' = true)
  (h63 : n + m ≤ maxLen) (hbytes : (n + m) * bytes ≤ 140737488355328) (hbase : base ≤ w.heap.size)
  (h : ∀ v' w', w'.ownsRow base e size v' (n + m) (xs ++ news) → Qa (fun k => some k ≠ v.ownBlock) w w' → (v'.ownBlock = v.ownBlock ∨ v'.ownBlock = some w.heap.size) → wpList P ops Q rest (a.put o.dst v') w') : wpList P ops Q (o :: rest) a w := by
 obtain ⟨i, hi, hz, h4, h5⟩ := info_parts T.info
 have key : ∃ v' w', (Builtin.append_ #[t, t] o.type #[v, .slice A m c]).run P w = .ok v' w' ∧ w'.ownsRow base e size v' (n + m) (xs ++ news) ∧ w.grownBy w' v.ownBlock ∧
   (v'.ownBlock = v.ownBlock ∨ v'.ownBlock = some w.heap.size) := by
  rcases A with _ | ad
  ·have hm : m = 0 := by
    rcases Nat.eq_zero_or_pos m with h0 | h0
    ·exact h0
    ·obtain ⟨ad, h, _⟩ := hr.2 h0;cases h
   subst hm;have hn : news = [] := List.eq_nil_of_length_eq_zero (by simpa using hr.1);subst hn;refine ⟨v, w, ?_, by simpa using hown, World.grownBy.refl w _, .inl rfl⟩;rcases hown.2 with ⟨rfl, rfl⟩ | ⟨g, cap, cur, rfl, _, _, hnc, _⟩
   ·simp [Builtin.append_, run_underlying T.und, sizeOf, typeInfo, hi, Builtin.lenOf, Builtin.firstCells]
   ·simp [Builtin.append_, run_underlying T.und, sizeOf, typeInfo, hi, Builtin.lenOf, Builtin.firstCells, hnc, storeCells]
  ·have hcells : ∀ j u, news[j]? = some u → w.cell? (ad.add j) = some u := by
    intro j u hu;rcases Nat.eq_zero_or_pos m with h0 | h0
    ·subst h0;have hn : news = [] := List.eq_nil_of_length_eq_zero (by simpa using hr.1);subst hn;simp at hu
    ·obtain ⟨ad', h, _, hc⟩ := hr.2 h0;injection h with h;subst h;exact hc j u hu
   obtain ⟨v', w', hrun, h2, h3, _, h5⟩ := run_append_own_at (P := P) w base t o.type e i z size bytes T.und hi hz h4 h5 T.zs T.pos v n xs hown ad m c news hr.1 hcells h1 h63 hbytes hbase;exact ⟨v', w', hrun, h2, h3, h5⟩
 obtain ⟨v', w', hrun, h2, h3, h4⟩ := key;refine wpList_plain hgd fun K hK => ?_
 unfold Oper.wp execOp;simp only [ho, resolve, invoke, builtin, Sem.run_bind, Sem.run_pure, Result.andThen_ok, List.map_toArray, List.map_cons, List.map_nil, hs, hx, hrun];exact hK _ _ (h v' w' h2 (Qa.ofGrown h3) h4)
theorem YG {w : World} {ops : Array Oper} {rest : List Oper} {o : Oper} {a : Act} {Q : Exit → Act → World → Prop} {args : Array Operand} {ts : Array TypeId}
  (_ho : o.op = .call { callee := .builtin .copy, args := args, argTypes := ts }) (h : Hid (wpList P ops Q (o :: rest) a w)) : wpList P ops Q (o :: rest) a w := h
end
def str (bs : List UInt8) : ByteArray := ⟨bs.toArray⟩
theorem YP (bs : List UInt8) : (str bs).size = bs.length := by simp [str, ByteArray.size]
theorem Qba (s : ByteArray) : s = str s.data.toList := by simp [str]
theorem QaS {P : Program} {w : World} {S : Nat → Prop} {A : Option Addr} {bs : List UInt8} (c : Nat) (src dst e : TypeId)
  (hs : P.underlying src = some (.slice e)) (he : P.underlying e = some (.int .u8)) (hd : P.underlying dst = some .string) (h : Sl w S 1 A bs.length (cs8 bs)) :
  (convert src dst (.slice A bs.length c)).run P w = .ok (.string (str bs)) w := by
 rw [run_convert_bytes_string w src dst e A _ c hs he hd];rcases A with _ | ad
 ·have hb : bs = [] := by
   cases bs with
   | nil => rfl
   | cons b bs => obtain ⟨ad, h, _⟩ := h.2 (by simp); cases h
  subst hb;rfl
 ·have hc : ∀ j u, (cs8 bs)[j]? = some u → w.cell? (ad.add j) = some u := by
   intro j u hu;cases hb : bs with
   | nil => subst hb; simp [cs8] at hu
   | cons b bs' =>
    obtain ⟨ad', h1, _, h2⟩ := h.2 (by rw [hb]; simp);injection h1 with h1;subst h1;exact h2 j u hu
  have hl := run_loadCells_list (P := P) w ad (cs8 bs) hc;have e1 : cs8 bs = (bs.map n8).map (Value.int .u8) := by simp [cs8]
  rw [show (cs8 bs).length = bs.length from by simp [cs8], e1] at hl;rw [run_bytesToString w ad bs.length c (bs.map n8) hl, foldl_push_bytes]
  have e2 : (bs.map n8).map (fun n => UInt8.ofNat n.toNat) = bs := by
   rw [List.map_map]
   conv => rhs; rw [← List.map_id bs]
   apply List.map_congr_left;intro b _;simp [n8]
  rw [e2];simp [str]
section
variable {H : Type} {enc : TypeId × Value → H} {P : Program} {W : World}
end
def LawWalk (P : Program) (f : FuncId) (fn : Func) (H : Type) (enc : TypeId × Value → H) : Prop :=
 ∀ (W : World) (base : Nat) (args : List Value) (ds : List (DataW H)) (ps : List MemPlace),
  (∀ (j : Nat) (t : TypeId) (v : Value), fn.params[j]? = some t → args[j]? = some v → Value.okWide P W .any base t v) →
  DataW.TrodAll enc P W 0 (fun _ => true) true fn.params.toList args ds ps →
  Calls P f args.toArray W fun e W' => e = .returned (.bool true) ∧ Qa (fun _ => True) W W'
end Go.Proofs.Ytoldelocfmpccaa
namespace Go.Proofs.Ytoldelocfmpccaa
def XR (o : Oper) (j : Nat) : Bool := o.after.toList.any fun e => e.on == j && Region.binds .any e
def Q9 (ops : Array Oper) (j : Nat) : Nat := ((ops[j]?).bind (·.dst)).getD 0
def KQ (ops : Array Oper) (i d : Nat) : Bool := ops.toList.all fun o => !(o.dst == some d) || XR o i
def YZ (ops : Array Oper) : Bool :=
 (List.range ops.size).all fun i => ((ops[i]?).map fun o => o.after.all (fun e => decide (e.on < i) || !Region.binds .any e) && o.dst.isSome && (List.range i).all fun j => Q9 ops j != Q9 ops i).getD false
structure Y1 (ops : Array Oper) (φ : Nat → Value → World → Prop) (a0 : Act) (w0 : World) (listed : Array Bool) (a : Act) (w : World) : Prop where
 defers : a.defers = a0.defers
 size : a.tmps.size = a0.tmps.size
 same : Qa (fun _ => True) w0 w
 kept : ∀ d, (∀ j o, ops[j]? = some o → listed.getD j true = true → o.dst ≠ some d) → a.tmps[d]? = a0.tmps[d]?
 done : ∀ j, j < ops.size → listed.getD j true = true → φ j (a.tmps.getD (Q9 ops j) undef) w
 down : ∀ j o e, ops[j]? = some o → listed.getD j true = true → e ∈ o.after → Region.binds .any e = true → listed.getD e.on true = true
theorem Z8 (a : Act) (d k : Nat) (v : Value) (h : d < a.tmps.size) : (a.put (some d) v).tmps.getD k undef = if d = k then v else a.tmps.getD k undef := by
 simp only [Act.put, Array.getD_eq_getD_getElem?, Array.getElem?_setIfInBounds];split
 ·rename_i e; subst e; simp [h]
 ·rfl
theorem KE {l : Array Bool} {j : Nat} (h : l.getD j false = true) : l.getD j true = true := by
 simp only [Array.getD_eq_getD_getElem?] at h ⊢;cases hj : l[j]? with
 | none => rw [hj] at h; cases h
 | some b => rw [hj] at h; exact h
theorem KK {l : Array Bool} {j : Nat} (hj : j < l.size) (h : l.getD j true = true) : l.getD j false = true := by
 simp only [Array.getD_eq_getD_getElem?, Array.getElem?_eq_getElem hj, Option.getD_some] at h ⊢;exact h
theorem Yj {n i fuel : Nat} {p p' : Nat → Bool} (hi : i < n) (hpi : p i = true) (hp' : ∀ j, p' j = (p j && j != i)) (h : ((List.range n).filter p).length = fuel + 1) : ((List.range n).filter p').length = fuel := by
 have e : (List.range n).filter p' = ((List.range n).filter p).erase i := by
  rw [List.Nodup.erase_eq_filter (List.Pairwise.filter _ List.nodup_range), List.filter_filter];apply List.filter_congr;intro j _;rw [hp' j, Bool.and_comm]
 rw [e, List.length_erase_of_mem (List.mem_filter.2 ⟨List.mem_range.2 hi, hpi⟩), h];rfl
section
variable {P : Program} {ops : Array Oper} {φ : Nat → Value → World → Prop} {a0 : Act} {w0 : World} {Q : Exit → Act → World → Prop}
theorem Zs {i : Nat} {o : Oper} {d : Nat} (ho : ops[i]? = some o) (hd : o.dst = some d) : Q9 ops i = d := by simp [Q9, ho, hd]
theorem Jn (hp : YZ ops = true) {i : Nat} {o : Oper} (ho : ops[i]? = some o) :
  (∀ e ∈ o.after, Region.binds .any e = true → e.on < i) ∧ (∃ d, o.dst = some d) ∧ ∀ j, j < i → Q9 ops j ≠ Q9 ops i := by
 have hi : i < ops.size := (Array.getElem?_eq_some_iff.1 ho).1;have h := List.all_eq_true.1 hp i (List.mem_range.2 hi);rw [ho] at h;simp only [Option.map_some, Option.getD_some, Bool.and_eq_true, Array.all_eq_true_iff_forall_mem, decide_eq_true_eq, List.all_eq_true, List.mem_range, bne_iff_ne, ne_eq] at h;obtain ⟨⟨h1, h2⟩, h3⟩ := h;refine ⟨fun e he hb => ?_, Option.isSome_iff_exists.1 h2, h3⟩;have := h1 e he;simpa [hb] using this
theorem Y1.step (hp : YZ ops = true) (hstab : ∀ i v w w', φ i v w → Qa (fun _ => True) w w' → φ i v w') (hsz : ∀ (i : Nat) (o : Oper) (d : Nat), ops[i]? = some o → o.dst = some d → d < a0.tmps.size)
  {listed : Array Bool} {a : Act} {w w' : World} {i : Nat} {o : Oper} {v : Value} (hl : listed.size = ops.size) (ho : ops[i]? = some o) (hni : listed.getD i true = false) (hr : ∀ e ∈ o.after, Region.binds .any e = true → listed.getD e.on true = true)
  (h : Y1 ops φ a0 w0 listed a w) (hs : Qa (fun _ => True) w w') (hv : φ i v w') : Y1 ops φ a0 w0 (listed.setIfInBounds i true) (a.put o.dst v) w' := by
 have hi : i < ops.size := (Array.getElem?_eq_some_iff.1 ho).1;obtain ⟨hback, ⟨d, hd⟩, hdist⟩ := Jn hp ho;have hdl : d < a.tmps.size := by rw [h.size]; exact hsz i o d ho hd
 have hset : ∀ j, (listed.setIfInBounds i true).getD j true = if i = j then true else listed.getD j true := by
  intro j;simp only [Array.getD_eq_getD_getElem?, Array.getElem?_setIfInBounds];split
  ·rename_i e; subst e; simp [hl, hi]
  ·rfl
 have hne : ∀ j, j < ops.size → j ≠ i → Q9 ops j ≠ d := by
  intro j hj hji e;obtain ⟨oj, hoj⟩ : ∃ oj, ops[j]? = some oj := ⟨_, Array.getElem?_eq_getElem hj⟩;have hsi := Zs ho hd;rcases Nat.lt_or_gt_of_ne hji with hlt | hgt
  ·exact hdist j hlt (by rw [hsi]; exact e)
  ·exact (Jn hp hoj).2.2 i hgt (by rw [hsi]; exact e.symm)
 refine ⟨by rw [hd]; exact h.defers, by rw [hd]; simp [Act.put]; exact h.size, h.same.trans hs, ?_, ?_, ?_⟩
 ·intro k hk
  have hkd : d ≠ k := by
   intro e;exact hk i o ho (by rw [hset, if_pos rfl]) (by rw [hd, e])
  have : (a.put o.dst v).tmps[k]? = a.tmps[k]? := by
   rw [hd];simp only [Act.put, Array.getElem?_setIfInBounds, if_neg hkd]
  rw [this];refine h.kept k fun j oj hoj hlj => hk j oj hoj ?_
  rw [hset]; split
  ·rfl
  ·exact hlj
 ·intro j hj hlj;rw [hset] at hlj;rw [hd, Z8 _ _ _ _ hdl];by_cases hij : i = j
  ·subst hij;rw [if_pos (Zs ho hd).symm];exact hv
  ·rw [if_neg hij] at hlj;rw [if_neg (fun e => hne j hj (fun e' => hij e'.symm) e.symm)];exact hstab _ _ _ _ (h.done j hj hlj) hs
 ·intro j oj e hoj hlj he hb;rw [hset] at hlj ⊢;split
  ·rfl
  ·by_cases hij : i = j
   ·subst hij;rw [ho] at hoj;injection hoj with hoj;subst hoj;exact hr e he hb
   ·rw [if_neg hij] at hlj;exact h.down j oj e hoj hlj he hb
def Kt (P : Program) (ops : Array Oper) (φ : Nat → Value → World → Prop) (a0 : Act) (w0 : World) (Q : Exit → Act → World → Prop) (i : Nat) (o : Oper) : Prop :=
 ∀ (a : Act) (w : World), Qa (fun _ => True) w0 w → a.defers = a0.defers → a.tmps.size = a0.tmps.size →
  (∀ d, KQ ops i d = true → a.tmps.getD d undef = a0.tmps.getD d undef) →
  (∀ j, XR o j = true → φ j (a.tmps.getD (Q9 ops j) undef) w) →
  ∀ K : Act → World → Prop, (∀ v w', φ i v w' → Qa (fun _ => True) w w' → K (a.put o.dst v) w') →
   if Region.wanted o (yielded ops a.tmps) = true then Oper.wp P o a w K Q else K (a.put o.dst undef) w
theorem W5 (hp : YZ ops = true) (hstab : ∀ i v w w', φ i v w → Qa (fun _ => True) w w' → φ i v w') (hsz : ∀ (i : Nat) (o : Oper) (d : Nat), ops[i]? = some o → o.dst = some d → d < a0.tmps.size)
  (hstep : ∀ i o, ops[i]? = some o → Kt P ops φ a0 w0 Q i o)
  (hend : ∀ a w, Qa (fun _ => True) w0 w → a.defers = a0.defers → a.tmps.size = a0.tmps.size → (∀ d, (∀ j, j < ops.size → Q9 ops j ≠ d) → a.tmps.getD d undef = a0.tmps.getD d undef) →
   (∀ j, j < ops.size → φ j (a.tmps.getD (Q9 ops j) undef) w) → Q .normal a w) :
  ∀ (fuel : Nat) (listed : Array Bool) (a : Act) (w : World), listed.size = ops.size → ((List.range ops.size).filter fun i => !listed.getD i true).length = fuel →
   Y1 ops φ a0 w0 listed a w → wpAny P .any ops Q fuel listed a w := by
 have ready_nil : ∀ listed : Array Bool, listed.size = ops.size → Region.ready .any ops listed = [] → ∀ i, i < ops.size → listed.getD i true = true := by
  intro listed hlz hr i
  induction i using Nat.strongRecOn with
  | _ i ih =>
   intro hi;cases hli : listed.getD i true with
   | true => rfl
   | false =>
    exfalso;obtain ⟨o, ho⟩ : ∃ o, ops[i]? = some o := ⟨_, Array.getElem?_eq_getElem hi⟩
    have : i ∈ Region.ready .any ops listed := by
     unfold Region.ready;rw [List.mem_filter];refine ⟨List.mem_range.2 hi, ?_⟩;rw [ho, hli];simp only [Bool.not_false, Bool.true_and, Option.map_some, Option.getD_some, Array.all_eq_true_iff_forall_mem];intro e he;by_cases hb : Region.binds .any e = true
     ·have hlt := (Jn hp ho).1 e he hb
      have hz : listed.getD e.on false = true := by
       exact KK (by omega) (ih e.on hlt (by omega))
      rw [hz]; simp
     ·simp [hb]
    rw [hr] at this;cases this
 have fin : ∀ (listed : Array Bool) (a : Act) (w : World), listed.size = ops.size → Region.ready .any ops listed = [] → Y1 ops φ a0 w0 listed a w → Q .normal a w := by
  intro listed a w hlz hr h;have hall := ready_nil listed hlz hr;refine hend a w h.same h.defers h.size (fun d hd => ?_) (fun j hj => h.done j hj (hall j hj));have := h.kept d fun j o ho _ e => hd j (Array.getElem?_eq_some_iff.1 ho).1 (Zs ho e)
  simp [Array.getD_eq_getD_getElem?, this]
 intro fuel
 induction fuel with
 | zero =>
  intro listed a w hl hc h
  have hr : Region.ready .any ops listed = [] := by
   unfold Region.ready;rw [List.filter_eq_nil_iff];intro i hi hh;have hf := List.eq_nil_of_length_eq_zero hc;rw [List.filter_eq_nil_iff] at hf;have := hf i hi;simp only [Bool.and_eq_true] at hh;exact this hh.1
  exact ⟨hr, fin listed a w hl hr h⟩
 | succ fuel ih =>
  intro listed a w hl hc h;refine ⟨fun hr => fin listed a w hl hr h, fun i hi => ?_⟩;unfold Region.ready at hi;rw [List.mem_filter] at hi;obtain ⟨hi, hrd⟩ := hi;have hi := List.mem_range.1 hi;obtain ⟨o, ho⟩ : ∃ o, ops[i]? = some o := ⟨_, Array.getElem?_eq_getElem hi⟩;rw [ho] at hrd;simp only [Bool.and_eq_true, Bool.not_eq_true', Option.map_some, Option.getD_some, Array.all_eq_true_iff_forall_mem] at hrd;obtain ⟨hni, hrd⟩ := hrd
  have hrr : ∀ e ∈ o.after, Region.binds .any e = true → listed.getD e.on true = true := by
   intro e he hb;have := hrd e he;rw [hb] at this;exact KE (by simpa using this)
  refine wpOp_step ho fun K hK => ?_
  refine hstep i o ho a w h.same h.defers h.size (fun d hd => ?_) (fun j hj => ?_) K (fun v w' hv hs => hK _ _ ?_)
  ·have : a.tmps[d]? = a0.tmps[d]? := by
    refine h.kept d fun j oj hoj hlj e => ?_
    have hm : oj ∈ ops.toList := by
     rw [Array.mem_toList_iff];exact Array.mem_of_getElem? hoj
    have := List.all_eq_true.1 hd oj hm;simp only [e, beq_self_eq_true, Bool.not_true, Bool.false_or, XR, List.any_eq_true, Bool.and_eq_true, beq_iff_eq, Array.mem_toList_iff] at this;obtain ⟨ed, h1, h2, h3⟩ := this;have := h.down j oj ed hoj hlj h1 h3;rw [h2, hni] at this;cases this
   simp [Array.getD_eq_getD_getElem?, this]
  ·simp only [XR, List.any_eq_true, Bool.and_eq_true, beq_iff_eq, Array.mem_toList_iff] at hj;obtain ⟨e, he, h2, h3⟩ := hj;have hlt := (Jn hp ho).1 e he h3;exact h.done j (by omega) (by rw [← h2]; exact hrr e he h3)
  ·refine ih _ _ _ (by simpa using hl) ?_ (Y1.step hp hstab hsz hl ho hni hrr h hs hv);refine Yj (i := i) (p := fun i => !listed.getD i true) hi (by rw [hni]; rfl) (fun j => ?_) hc;simp only [Array.getD_eq_getD_getElem?, Array.getElem?_setIfInBounds];by_cases hij : i = j
   ·subst hij;have : i < listed.size := by omega
    simp [this]
   ·rw [if_neg hij];have : (j != i) = true := by simpa using fun e : j = i => hij e.symm
    rw [this, Bool.and_true]
theorem K0 {id : Nat} (hm : P.follows .mixedOrders = true) (hp : YZ ops = true) (hstab : ∀ i v w w', φ i v w → Qa (fun _ => True) w w' → φ i v w') (hsz : (ops.toList.all fun o => (o.dst.map fun d => decide (d < a0.tmps.size)).getD true) = true)
  (hstep : ∀ i o, ops[i]? = some o → Kt P ops φ a0 w0 Q i o)
  (hend : ∀ a w, Qa (fun _ => True) w0 w → a.defers = a0.defers → a.tmps.size = a0.tmps.size → (∀ d, (∀ j, j < ops.size → Q9 ops j ≠ d) → a.tmps.getD d undef = a0.tmps.getD d undef) →
   (∀ j, j < ops.size → φ j (a.tmps.getD (Q9 ops j) undef) w) → Q .normal a w) : (Code.region id ops true).wp P Q a0 w0 := by
 refine wp_region_any hm (W5 hp hstab (fun i o d ho hd => ?_) hstep hend ops.size _ a0 _ (by simp) ?_ ?_)
 ·have hmem : o ∈ ops.toList := by rw [Array.mem_toList_iff]; exact Array.mem_of_getElem? ho
  have := List.all_eq_true.1 hsz o hmem;rw [hd] at this;simpa using this
 ·have : ((List.range ops.size).filter fun i => !(Array.replicate ops.size false).getD i true) = List.range ops.size := by
   rw [List.filter_eq_self];intro i hi;have := List.mem_range.1 hi;simp [Array.getD_eq_getD_getElem?, this]
  rw [this, List.length_range]
 ·refine ⟨rfl, rfl, (Qa.refl _ _).drew, fun _ _ => rfl, fun j hj h => ?_, fun j o e ho h => ?_⟩
  ·simp [Array.getD_eq_getD_getElem?, hj] at h
  ·have hj := (Array.getElem?_eq_some_iff.1 ho).1;simp [Array.getD_eq_getD_getElem?, hj] at h
end
structure SP where
 p : Value → World → Prop
 st : ∀ v w w', p v w → Qa (fun _ => True) w w' → p v w'
def SP.any : SP := ⟨fun _ _ => True, fun _ _ _ _ _ => trivial⟩
def SP.eq (u : Value) : SP := ⟨fun v _ => v = u, fun _ _ _ h _ => h⟩
def SP.by (S : Nat → Prop) (bs : List UInt8) : SP := ⟨fun v w => By w S v bs, fun _ _ _ h k => h.keepAll k⟩
def phi (L : List SP) (i : Nat) (v : Value) (w : World) : Prop := (L.getD i SP.any).p v w
theorem QbG (L : List SP) : ∀ i v w w', phi L i v w → Qa (fun _ => True) w w' → phi L i v w' := fun i v w w' h k => (L.getD i SP.any).st v w w' h k
def JC (P : Program) (ops : Array Oper) (φ : Nat → Value → World → Prop) (a0 : Act) (w0 : World) (Q : Exit → Act → World → Prop) : Nat → List Oper → Prop
 | _, [] => True
 | k, o :: l => Kt P ops φ a0 w0 Q k o ∧ JC P ops φ a0 w0 Q (k + 1) l
theorem JC.nil {P : Program} {ops : Array Oper} {φ : Nat → Value → World → Prop} {a0 : Act} {w0 : World} {Q : Exit → Act → World → Prop} {k : Nat} : JC P ops φ a0 w0 Q k [] := trivial
theorem JC.cons {P : Program} {ops : Array Oper} {φ : Nat → Value → World → Prop} {a0 : Act} {w0 : World} {Q : Exit → Act → World → Prop} {k : Nat} {o : Oper} {l : List Oper} (h : Kt P ops φ a0 w0 Q k o) (h' : JC P ops φ a0 w0 Q (k + 1) l) : JC P ops φ a0 w0 Q k (o :: l) := ⟨h, h'⟩
theorem JC.at_ {P : Program} {ops : Array Oper} {φ : Nat → Value → World → Prop} {a0 : Act} {w0 : World} {Q : Exit → Act → World → Prop} : ∀ (l : List Oper) (k : Nat), JC P ops φ a0 w0 Q k l → ∀ i o, l[i]? = some o → Kt P ops φ a0 w0 Q (k + i) o
 | [], _, _, i, o, h => by simp at h
 | o' :: l, k, h, 0, o, ho => by simp at ho; subst ho; exact h.1
 | o' :: l, k, h, i + 1, o, ho => by
  have := JC.at_ l (k + 1) h.2 i o (by simpa using ho);rwa [show k + (i + 1) = k + 1 + i from by omega]
theorem Yt {P : Program} {l : List Oper} {L : List SP} {a0 : Act} {w0 : World} {Q : Exit → Act → World → Prop} {id : Nat} (hm : P.follows .mixedOrders = true) (hp : YZ l.toArray = true)
  (hsz : (l.all fun o => (o.dst.map fun d => decide (d < a0.tmps.size)).getD true) = true)
  (hstep : JC P l.toArray (phi L) a0 w0 Q 0 l)
  (hend : ∀ a w, Qa (fun _ => True) w0 w → a.defers = a0.defers → a.tmps.size = a0.tmps.size → (∀ d, (l.all fun o => o.dst != some d) = true → a.tmps.getD d undef = a0.tmps.getD d undef) →
   (∀ j, j < l.length → phi L j (a.tmps.getD (Q9 l.toArray j) undef) w) → Q .normal a w) : (Code.region id l.toArray true).wp P Q a0 w0 := by
 refine K0 (φ := phi L) hm hp (QbG L) (by simpa using hsz) (fun i o ho => ?_) (fun a w h1 h2 h3 h4 h5 => hend a w h1 h2 h3 (fun d hd => h4 d fun j hj e => ?_) (fun j hj => h5 j (by simpa using hj)))
 ·have := JC.at_ l 0 hstep i o (by simpa using ho);rwa [Nat.zero_add] at this
 ·have hj' : j < l.length := by simpa using hj
  have hd' := List.all_eq_true.1 hd l[j] (List.getElem_mem hj');obtain ⟨d', hd2⟩ := (Jn hp (i := j) (o := l[j]) (by simp [hj'])).2.1;have : Q9 l.toArray j = d' := Zs (by simp [hj']) hd2;rw [hd2] at hd';rw [this] at e;subst e;simp at hd'
theorem Uc {ops : Array Oper} {o : Oper} {a : Act} {j d : Nat} {b want : Bool} (hg : o.guard = some (j, want)) (ho : (ops[j]?).bind (·.dst) = some d) (hd : d < a.tmps.size) (e : a.eval (.tmp d) = .bool b) :
  Region.wanted o (yielded ops a.tmps) = (some b == some want) := by
 have hy : yielded ops a.tmps j = some b := by
  unfold yielded;rw [ho]
  have h1 : a.tmps[d]? = some (.bool b) := by
   have : a.tmps.getD d undef = .bool b := e;rw [Array.getD_eq_getD_getElem?, Array.getElem?_eq_getElem hd] at this;rw [Array.getElem?_eq_getElem hd];simpa using this
  simp [h1]
 unfold Region.wanted;rw [hg];simp [hy]
theorem V2 {ops : Array Oper} {o : Oper} {a : Act} {j d n : Nat} {b : Bool} {A B : Prop} (hg : o.guard = some (j, b)) (ho : (ops[j]?).bind (·.dst) = some d) (hn : a.tmps.size = n) (hd : d < n) (e : a.eval (.tmp d) = .bool b) (h : A) :
  if Region.wanted o (yielded ops a.tmps) = true then A else B := by
 rw [Uc hg ho (by omega) e, if_pos (by simp)];exact h
theorem Vl {ops : Array Oper} {o : Oper} {a : Act} {j d n : Nat} {b : Bool} {A B : Prop} (hg : o.guard = some (j, !b)) (ho : (ops[j]?).bind (·.dst) = some d) (hn : a.tmps.size = n) (hd : d < n) (e : a.eval (.tmp d) = .bool b) (h : B) :
  if Region.wanted o (yielded ops a.tmps) = true then A else B := by
 rw [Uc hg ho (by omega) e, if_neg (by cases b <;> simp)];exact h
end Go.Proofs.Ytoldelocfmpccaa
namespace Go.Proofs.Ytoldelocfmpccaa
open Go.RowKit
theorem SR {S : Nat → Prop} {w : World} : Qa S w w := Qa.refl S w
theorem LH {p : Prop} (h : p) : Go.RowKit.Hid p := h
theorem tv : True := trivial
theorem ST {w : World} : Qa (fun _ => True) w w := Qa.refl _ w
theorem LM : (∀ {α β : Type} (f : α → β) (l : List α), l.toArray.map f = (l.map f).toArray) ∧ (∀ {α β : Type} {f : α → β} {a : α} {l : List α}, (a :: l).map f = f a :: l.map f) ∧ (∀ {α β : Type} {f : α → β}, ([] : List α).map f = []) ∧ (∀ {α β : Type} (a : α) (f : α → β), (some a).map f = some (f a)) ∧ (∀ {α β : Type} (f : α → β), (none : Option α).map f = none) :=
 ⟨fun f l => by simp, by intros; rfl, by intros; rfl, by intros; rfl, by intros; rfl⟩
theorem LG : (∀ {α : Type} {a : α} {l : List α}, (a :: l)[0]? = some a) ∧ ∀ {α : Type} {a : α} {i : Nat} {l : List α}, (a :: l)[i + 1]? = l[i]? := ⟨List.getElem?_cons_zero, List.getElem?_cons_succ⟩
theorem LP : (∀ {α : Type} {l : List α} {i : Nat} {a : α}, l.toArray.setIfInBounds i a = (l.set i a).toArray) ∧ (∀ {α : Type} {a b : α} {i : Nat} {l : List α}, (a :: l).set (i + 1) b = a :: l.set i b) ∧ (∀ {α : Type} {a b : α} {l : List α}, (a :: l).set 0 b = b :: l) ∧ (∀ {α : Type} {a : α} {i : Nat} {l : List α}, (a :: l).take (i + 1) = a :: l.take i) ∧ (∀ {α : Type} {l : List α}, l.take 0 = []) ∧ (∀ {α : Type} {a : α} {i : Nat} {l : List α}, (a :: l).drop (i + 1) = l.drop i) ∧ (∀ {α : Type} {l : List α}, l.drop 0 = l) :=
 ⟨by intros; simp, by intros; rfl, by intros; rfl, by intros; rfl, by intros; rfl, by intros; rfl, by intros; rfl⟩
theorem RL : type_of% (And.intro @Region.wanted.eq_def (And.intro @Oper.wp.eq_def (And.intro @execOp.eq_def (And.intro @resolve.eq_def LM)))) := And.intro @Region.wanted.eq_def (And.intro @Oper.wp.eq_def (And.intro @execOp.eq_def (And.intro @resolve.eq_def LM)))
theorem EV {a : Act} (s : Nat) (v : Value) (h : a.eval (.tmp s) = v) : a.eval (.tmp s) = v := h
theorem RW (j d : Nat) (b : Bool) {ops : Array Oper} {o : Oper} {a : Act} {n : Nat} {A B : Prop} (hn : a.tmps.size = n) (e : a.eval (.tmp d) = .bool b) (h : A) (hg : o.guard = some (j, b) := by rfl) (ho : (ops[j]?).bind (·.dst) = some d := by rfl) (hd : d < n := by exact of_decide_eq_true rfl) :
  if Region.wanted o (yielded ops a.tmps) = true then A else B := V2 hg ho hn hd e h
theorem SW (j d : Nat) (b : Bool) {ops : Array Oper} {o : Oper} {a : Act} {n : Nat} {A B : Prop} (hn : a.tmps.size = n) (e : a.eval (.tmp d) = .bool b) (h : B) (hg : o.guard = some (j, !b) := by rfl) (ho : (ops[j]?).bind (·.dst) = some d := by rfl) (hd : d < n := by exact of_decide_eq_true rfl) :
  if Region.wanted o (yielded ops a.tmps) = true then A else B := Vl hg ho hn hd e h
theorem MC {S : Nat → Prop} {w w' : World} {p : Addr} {v : Value} (hc : w.cell? p = some v) (h : Qa S w w') (hs : S p.block) : w'.cell? p = some v := h.cell hs hc
theorem EP {a : Act} (s g o : Nat) (h : a.eval (.tmp s) = .pointer (some ⟨g, o, none⟩)) : a.eval (.tmp s) = .pointer (some ⟨g, o, none⟩) := h
theorem LN1 {α : Type} {l : List α} (h : l.length = 1) : ∃ a0, l = [a0] := by
 match l, h with
 | [a0], _ => exact ⟨a0, rfl⟩
theorem LN2 {α : Type} {l : List α} (h : l.length = 2) : ∃ a0 a1, l = [a0, a1] := by
 match l, h with
 | [a0, a1], _ => exact ⟨a0, a1, rfl⟩
theorem LN3 {α : Type} {l : List α} (h : l.length = 3) : ∃ a0 a1 a2, l = [a0, a1, a2] := by
 match l, h with
 | [a0, a1, a2], _ => exact ⟨a0, a1, a2, rfl⟩
theorem LN4 {α : Type} {l : List α} (h : l.length = 4) : ∃ a0 a1 a2 a3, l = [a0, a1, a2, a3] := by
 match l, h with
 | [a0, a1, a2, a3], _ => exact ⟨a0, a1, a2, a3, rfl⟩
theorem LN5 {α : Type} {l : List α} (h : l.length = 5) : ∃ a0 a1 a2 a3 a4, l = [a0, a1, a2, a3, a4] := by
 match l, h with
 | [a0, a1, a2, a3, a4], _ => exact ⟨a0, a1, a2, a3, a4, rfl⟩
theorem LN6 {α : Type} {l : List α} (h : l.length = 6) : ∃ a0 a1 a2 a3 a4 a5, l = [a0, a1, a2, a3, a4, a5] := by
 match l, h with
 | [a0, a1, a2, a3, a4, a5], _ => exact ⟨a0, a1, a2, a3, a4, a5, rfl⟩
theorem LN8 {α : Type} {l : List α} (h : l.length = 8) : ∃ a0 a1 a2 a3 a4 a5 a6 a7, l = [a0, a1, a2, a3, a4, a5, a6, a7] := by
 match l, h with
 | [a0, a1, a2, a3, a4, a5, a6, a7], _ => exact ⟨a0, a1, a2, a3, a4, a5, a6, a7, rfl⟩
theorem LN9 {α : Type} {l : List α} (h : l.length = 9) : ∃ a0 a1 a2 a3 a4 a5 a6 a7 a8, l = [a0, a1, a2, a3, a4, a5, a6, a7, a8] := by
 match l, h with
 | [a0, a1, a2, a3, a4, a5, a6, a7, a8], _ => exact ⟨a0, a1, a2, a3, a4, a5, a6, a7, a8, rfl⟩
theorem QaE {α : Type} {l : List α} (h : l.length = 10) : ∃ a0 a1 a2 a3 a4 a5 a6 a7 a8 a9, l = [a0, a1, a2, a3, a4, a5, a6, a7, a8, a9] := by
 match l, h with
 | [a0, a1, a2, a3, a4, a5, a6, a7, a8, a9], _ => exact ⟨a0, a1, a2, a3, a4, a5, a6, a7, a8, a9, rfl⟩
theorem WN {α : Type} {l : List α} (h : l.length = 11) : ∃ a0 a1 a2 a3 a4 a5 a6 a7 a8 a9 a10, l = [a0, a1, a2, a3, a4, a5, a6, a7, a8, a9, a10] := by
 match l, h with
 | [a0, a1, a2, a3, a4, a5, a6, a7, a8, a9, a10], _ => exact ⟨a0, a1, a2, a3, a4, a5, a6, a7, a8, a9, a10, rfl⟩
theorem Qa3 {α : Type} {l : List α} (h : l.length = 12) : ∃ a0 a1 a2 a3 a4 a5 a6 a7 a8 a9 a10 a11, l = [a0, a1, a2, a3, a4, a5, a6, a7, a8, a9, a10, a11] := by
 match l, h with
 | [a0, a1, a2, a3, a4, a5, a6, a7, a8, a9, a10, a11], _ => exact ⟨a0, a1, a2, a3, a4, a5, a6, a7, a8, a9, a10, a11, rfl⟩
theorem Qbt {α : Type} {l : List α} (h : l.length = 13) : ∃ a0 a1 a2 a3 a4 a5 a6 a7 a8 a9 a10 a11 a12, l = [a0, a1, a2, a3, a4, a5, a6, a7, a8, a9, a10, a11, a12] := by
 match l, h with
 | [a0, a1, a2, a3, a4, a5, a6, a7, a8, a9, a10, a11, a12], _ => exact ⟨a0, a1, a2, a3, a4, a5, a6, a7, a8, a9, a10, a11, a12, rfl⟩
theorem QbH {α : Type} {l : List α} (h : l.length = 14) : ∃ a0 a1 a2 a3 a4 a5 a6 a7 a8 a9 a10 a11 a12 a13, l = [a0, a1, a2, a3, a4, a5, a6, a7, a8, a9, a10, a11, a12, a13] := by
 match l, h with
 | [a0, a1, a2, a3, a4, a5, a6, a7, a8, a9, a10, a11, a12, a13], _ => exact ⟨a0, a1, a2, a3, a4, a5, a6, a7, a8, a9, a10, a11, a12, a13, rfl⟩
theorem Qbw {α : Type} {l : List α} (h : l.length = 15) : ∃ a0 a1 a2 a3 a4 a5 a6 a7 a8 a9 a10 a11 a12 a13 a14, l = [a0, a1, a2, a3, a4, a5, a6, a7, a8, a9, a10, a11, a12, a13, a14] := by
 match l, h with
 | [a0, a1, a2, a3, a4, a5, a6, a7, a8, a9, a10, a11, a12, a13, a14], _ => exact ⟨a0, a1, a2, a3, a4, a5, a6, a7, a8, a9, a10, a11, a12, a13, a14, rfl⟩
theorem Qb8 {α : Type} {l : List α} (h : l.length = 16) : ∃ a0 a1 a2 a3 a4 a5 a6 a7 a8 a9 a10 a11 a12 a13 a14 a15, l = [a0, a1, a2, a3, a4, a5, a6, a7, a8, a9, a10, a11, a12, a13, a14, a15] := by
 match l, h with
 | [a0, a1, a2, a3, a4, a5, a6, a7, a8, a9, a10, a11, a12, a13, a14, a15], _ => exact ⟨a0, a1, a2, a3, a4, a5, a6, a7, a8, a9, a10, a11, a12, a13, a14, a15, rfl⟩
theorem Qb7 {α : Type} {l : List α} (h : l.length = 17) : ∃ a0 a1 a2 a3 a4 a5 a6 a7 a8 a9 a10 a11 a12 a13 a14 a15 a16, l = [a0, a1, a2, a3, a4, a5, a6, a7, a8, a9, a10, a11, a12, a13, a14, a15, a16] := by
 match l, h with
 | [a0, a1, a2, a3, a4, a5, a6, a7, a8, a9, a10, a11, a12, a13, a14, a15, a16], _ => exact ⟨a0, a1, a2, a3, a4, a5, a6, a7, a8, a9, a10, a11, a12, a13, a14, a15, a16, rfl⟩
theorem QbX {α : Type} {l : List α} (h : l.length = 18) : ∃ a0 a1 a2 a3 a4 a5 a6 a7 a8 a9 a10 a11 a12 a13 a14 a15 a16 a17, l = [a0, a1, a2, a3, a4, a5, a6, a7, a8, a9, a10, a11, a12, a13, a14, a15, a16, a17] := by
 match l, h with
 | [a0, a1, a2, a3, a4, a5, a6, a7, a8, a9, a10, a11, a12, a13, a14, a15, a16, a17], _ => exact ⟨a0, a1, a2, a3, a4, a5, a6, a7, a8, a9, a10, a11, a12, a13, a14, a15, a16, a17, rfl⟩
theorem Qca {α : Type} {l : List α} (h : l.length = 23) : ∃ a0 a1 a2 a3 a4 a5 a6 a7 a8 a9 a10 a11 a12 a13 a14 a15 a16 a17 a18 a19 a20 a21 a22, l = [a0, a1, a2, a3, a4, a5, a6, a7, a8, a9, a10, a11, a12, a13, a14, a15, a16, a17, a18, a19, a20, a21, a22] := by
 match l, h with
 | [a0, a1, a2, a3, a4, a5, a6, a7, a8, a9, a10, a11, a12, a13, a14, a15, a16, a17, a18, a19, a20, a21, a22], _ => exact ⟨a0, a1, a2, a3, a4, a5, a6, a7, a8, a9, a10, a11, a12, a13, a14, a15, a16, a17, a18, a19, a20, a21, a22, rfl⟩
theorem CN2 {w : World} {g : Nat} {e : TypeId} {a0 a1 : Value} (h : Row w g e [a0, a1]) : w.cell? ⟨g, 0, none⟩ = some a0 ∧ w.cell? ⟨g, 1, none⟩ = some a1 := ⟨h.cell 0, h.cell 1⟩
theorem FN2 {w : World} {g : Nat} {e : TypeId} {xs : List Value} (h : Row w g e xs) : w.frozen? ⟨g, 0, none⟩ = false ∧ w.frozen? ⟨g, 1, none⟩ = false := ⟨h.frozen 0, h.frozen 1⟩
theorem CN3 {w : World} {g : Nat} {e : TypeId} {a0 a1 a2 : Value} (h : Row w g e [a0, a1, a2]) : w.cell? ⟨g, 0, none⟩ = some a0 ∧ w.cell? ⟨g, 1, none⟩ = some a1 ∧ w.cell? ⟨g, 2, none⟩ = some a2 := ⟨h.cell 0, h.cell 1, h.cell 2⟩
theorem CN4 {w : World} {g : Nat} {e : TypeId} {a0 a1 a2 a3 : Value} (h : Row w g e [a0, a1, a2, a3]) : w.cell? ⟨g, 0, none⟩ = some a0 ∧ w.cell? ⟨g, 1, none⟩ = some a1 ∧ w.cell? ⟨g, 2, none⟩ = some a2 ∧ w.cell? ⟨g, 3, none⟩ = some a3 := ⟨h.cell 0, h.cell 1, h.cell 2, h.cell 3⟩
theorem CN7 {w : World} {g : Nat} {e : TypeId} {a0 a1 a2 a3 a4 a5 a6 : Value} (h : Row w g e [a0, a1, a2, a3, a4, a5, a6]) : w.cell? ⟨g, 0, none⟩ = some a0 ∧ w.cell? ⟨g, 1, none⟩ = some a1 ∧ w.cell? ⟨g, 2, none⟩ = some a2 ∧ w.cell? ⟨g, 3, none⟩ = some a3 ∧ w.cell? ⟨g, 4, none⟩ = some a4 ∧ w.cell? ⟨g, 5, none⟩ = some a5 ∧ w.cell? ⟨g, 6, none⟩ = some a6 := ⟨h.cell 0, h.cell 1, h.cell 2, h.cell 3, h.cell 4, h.cell 5, h.cell 6⟩
theorem FN7 {w : World} {g : Nat} {e : TypeId} {xs : List Value} (h : Row w g e xs) : w.frozen? ⟨g, 0, none⟩ = false ∧ w.frozen? ⟨g, 1, none⟩ = false ∧ w.frozen? ⟨g, 2, none⟩ = false ∧ w.frozen? ⟨g, 3, none⟩ = false ∧ w.frozen? ⟨g, 4, none⟩ = false ∧ w.frozen? ⟨g, 5, none⟩ = false ∧ w.frozen? ⟨g, 6, none⟩ = false := ⟨h.frozen 0, h.frozen 1, h.frozen 2, h.frozen 3, h.frozen 4, h.frozen 5, h.frozen 6⟩
theorem CN9 {w : World} {g : Nat} {e : TypeId} {a0 a1 a2 a3 a4 a5 a6 a7 a8 : Value} (h : Row w g e [a0, a1, a2, a3, a4, a5, a6, a7, a8]) : w.cell? ⟨g, 0, none⟩ = some a0 ∧ w.cell? ⟨g, 1, none⟩ = some a1 ∧ w.cell? ⟨g, 2, none⟩ = some a2 ∧ w.cell? ⟨g, 3, none⟩ = some a3 ∧ w.cell? ⟨g, 4, none⟩ = some a4 ∧ w.cell? ⟨g, 5, none⟩ = some a5 ∧ w.cell? ⟨g, 6, none⟩ = some a6 ∧ w.cell? ⟨g, 7, none⟩ = some a7 ∧ w.cell? ⟨g, 8, none⟩ = some a8 := ⟨h.cell 0, h.cell 1, h.cell 2, h.cell 3, h.cell 4, h.cell 5, h.cell 6, h.cell 7, h.cell 8⟩
theorem FN9 {w : World} {g : Nat} {e : TypeId} {xs : List Value} (h : Row w g e xs) : w.frozen? ⟨g, 0, none⟩ = false ∧ w.frozen? ⟨g, 1, none⟩ = false ∧ w.frozen? ⟨g, 2, none⟩ = false ∧ w.frozen? ⟨g, 3, none⟩ = false ∧ w.frozen? ⟨g, 4, none⟩ = false ∧ w.frozen? ⟨g, 5, none⟩ = false ∧ w.frozen? ⟨g, 6, none⟩ = false ∧ w.frozen? ⟨g, 7, none⟩ = false ∧ w.frozen? ⟨g, 8, none⟩ = false := ⟨h.frozen 0, h.frozen 1, h.frozen 2, h.frozen 3, h.frozen 4, h.frozen 5, h.frozen 6, h.frozen 7, h.frozen 8⟩
theorem QS {w : World} {g : Nat} {e : TypeId} {a0 a1 a2 a3 a4 a5 a6 a7 a8 a9 a10 : Value} (h : Row w g e [a0, a1, a2, a3, a4, a5, a6, a7, a8, a9, a10]) : w.cell? ⟨g, 0, none⟩ = some a0 ∧ w.cell? ⟨g, 1, none⟩ = some a1 ∧ w.cell? ⟨g, 2, none⟩ = some a2 ∧ w.cell? ⟨g, 3, none⟩ = some a3 ∧ w.cell? ⟨g, 4, none⟩ = some a4 ∧ w.cell? ⟨g, 5, none⟩ = some a5 ∧ w.cell? ⟨g, 6, none⟩ = some a6 ∧ w.cell? ⟨g, 7, none⟩ = some a7 ∧ w.cell? ⟨g, 8, none⟩ = some a8 ∧ w.cell? ⟨g, 9, none⟩ = some a9 ∧ w.cell? ⟨g, 10, none⟩ = some a10 := ⟨h.cell 0, h.cell 1, h.cell 2, h.cell 3, h.cell 4, h.cell 5, h.cell 6, h.cell 7, h.cell 8, h.cell 9, h.cell 10⟩
theorem QO {w : World} {g : Nat} {e : TypeId} {xs : List Value} (h : Row w g e xs) : w.frozen? ⟨g, 0, none⟩ = false ∧ w.frozen? ⟨g, 1, none⟩ = false ∧ w.frozen? ⟨g, 2, none⟩ = false ∧ w.frozen? ⟨g, 3, none⟩ = false ∧ w.frozen? ⟨g, 4, none⟩ = false ∧ w.frozen? ⟨g, 5, none⟩ = false ∧ w.frozen? ⟨g, 6, none⟩ = false ∧ w.frozen? ⟨g, 7, none⟩ = false ∧ w.frozen? ⟨g, 8, none⟩ = false ∧ w.frozen? ⟨g, 9, none⟩ = false ∧ w.frozen? ⟨g, 10, none⟩ = false := ⟨h.frozen 0, h.frozen 1, h.frozen 2, h.frozen 3, h.frozen 4, h.frozen 5, h.frozen 6, h.frozen 7, h.frozen 8, h.frozen 9, h.frozen 10⟩
theorem QW {w : World} {g : Nat} {e : TypeId} {a0 a1 a2 a3 a4 a5 a6 a7 a8 a9 a10 a11 a12 a13 : Value} (h : Row w g e [a0, a1, a2, a3, a4, a5, a6, a7, a8, a9, a10, a11, a12, a13]) : w.cell? ⟨g, 0, none⟩ = some a0 ∧ w.cell? ⟨g, 1, none⟩ = some a1 ∧ w.cell? ⟨g, 2, none⟩ = some a2 ∧ w.cell? ⟨g, 3, none⟩ = some a3 ∧ w.cell? ⟨g, 4, none⟩ = some a4 ∧ w.cell? ⟨g, 5, none⟩ = some a5 ∧ w.cell? ⟨g, 6, none⟩ = some a6 ∧ w.cell? ⟨g, 7, none⟩ = some a7 ∧ w.cell? ⟨g, 8, none⟩ = some a8 ∧ w.cell? ⟨g, 9, none⟩ = some a9 ∧ w.cell? ⟨g, 10, none⟩ = some a10 ∧ w.cell? ⟨g, 11, none⟩ = some a11 ∧ w.cell? ⟨g, 12, none⟩ = some a12 ∧ w.cell? ⟨g, 13, none⟩ = some a13 := ⟨h.cell 0, h.cell 1, h.cell 2, h.cell 3, h.cell 4, h.cell 5, h.cell 6, h.cell 7, h.cell 8, h.cell 9, h.cell 10, h.cell 11, h.cell 12, h.cell 13⟩
theorem KU {w : World} {g : Nat} {e : TypeId} {xs : List Value} (h : Row w g e xs) : w.frozen? ⟨g, 0, none⟩ = false ∧ w.frozen? ⟨g, 1, none⟩ = false ∧ w.frozen? ⟨g, 2, none⟩ = false ∧ w.frozen? ⟨g, 3, none⟩ = false ∧ w.frozen? ⟨g, 4, none⟩ = false ∧ w.frozen? ⟨g, 5, none⟩ = false ∧ w.frozen? ⟨g, 6, none⟩ = false ∧ w.frozen? ⟨g, 7, none⟩ = false ∧ w.frozen? ⟨g, 8, none⟩ = false ∧ w.frozen? ⟨g, 9, none⟩ = false ∧ w.frozen? ⟨g, 10, none⟩ = false ∧ w.frozen? ⟨g, 11, none⟩ = false ∧ w.frozen? ⟨g, 12, none⟩ = false ∧ w.frozen? ⟨g, 13, none⟩ = false := ⟨h.frozen 0, h.frozen 1, h.frozen 2, h.frozen 3, h.frozen 4, h.frozen 5, h.frozen 6, h.frozen 7, h.frozen 8, h.frozen 9, h.frozen 10, h.frozen 11, h.frozen 12, h.frozen 13⟩
theorem QbL (w : World) (t0 : TypeId) (x0 : List Value) : Row (w.alloc (.cells x0.toArray t0)) (w.heap.size) t0 x0 ∧ Qa (fun _ => True) w (w.alloc (.cells x0.toArray t0)) := by
 have r0 := (Row.new w t0 x0);exact ⟨r0, ((Qa.refl (fun _ => True) w).alloc (.cells x0.toArray t0))⟩
theorem Qb3 (w : World) (t0 : TypeId) (x0 : List Value) (t1 : TypeId) (x1 : List Value) : Row ((w.alloc (.cells x0.toArray t0)).alloc (.cells x1.toArray t1)) (w.heap.size) t0 x0 ∧ Row ((w.alloc (.cells x0.toArray t0)).alloc (.cells x1.toArray t1)) (w.heap.size + 1) t1 x1 ∧ Qa (fun _ => True) w ((w.alloc (.cells x0.toArray t0)).alloc (.cells x1.toArray t1)) := by
 have r0 := ((Row.new w t0 x0).keep ((Qa.refl (fun _ => True) _).alloc (.cells x1.toArray t1)) trivial);have r1 := (Row.new (w.alloc (.cells x0.toArray t0)) t1 x1);rw [World.size_alloc] at r1;exact ⟨r0, r1, (((Qa.refl (fun _ => True) w).alloc (.cells x0.toArray t0)).alloc (.cells x1.toArray t1))⟩
theorem QbQ (w : World) (t0 : TypeId) (x0 : List Value) (t1 : TypeId) (x1 : List Value) (t2 : TypeId) (x2 : List Value) : Row (((w.alloc (.cells x0.toArray t0)).alloc (.cells x1.toArray t1)).alloc (.cells x2.toArray t2)) (w.heap.size) t0 x0 ∧ Row (((w.alloc (.cells x0.toArray t0)).alloc (.cells x1.toArray t1)).alloc (.cells x2.toArray t2)) (w.heap.size + 1) t1 x1 ∧ Row (((w.alloc (.cells x0.toArray t0)).alloc (.cells x1.toArray t1)).alloc (.cells x2.toArray t2)) (w.heap.size + 1 + 1) t2 x2 ∧ Qa (fun _ => True) w (((w.alloc (.cells x0.toArray t0)).alloc (.cells x1.toArray t1)).alloc (.cells x2.toArray t2)) := by
 have r0 := (((Row.new w t0 x0).keep ((Qa.refl (fun _ => True) _).alloc (.cells x1.toArray t1)) trivial).keep ((Qa.refl (fun _ => True) _).alloc (.cells x2.toArray t2)) trivial);have r1 := ((Row.new (w.alloc (.cells x0.toArray t0)) t1 x1).keep ((Qa.refl (fun _ => True) _).alloc (.cells x2.toArray t2)) trivial);rw [World.size_alloc] at r1;have r2 := (Row.new ((w.alloc (.cells x0.toArray t0)).alloc (.cells x1.toArray t1)) t2 x2);rw [World.size_alloc, World.size_alloc] at r2;exact ⟨r0, r1, r2, ((((Qa.refl (fun _ => True) w).alloc (.cells x0.toArray t0)).alloc (.cells x1.toArray t1)).alloc (.cells x2.toArray t2))⟩
theorem Kh (w : World) (t0 : TypeId) (x0 : List Value) (t1 : TypeId) (x1 : List Value) (t2 : TypeId) (x2 : List Value) (t3 : TypeId) (x3 : List Value) : Row ((((w.alloc (.cells x0.toArray t0)).alloc (.cells x1.toArray t1)).alloc (.cells x2.toArray t2)).alloc (.cells x3.toArray t3)) (w.heap.size) t0 x0 ∧ Row ((((w.alloc (.cells x0.toArray t0)).alloc (.cells x1.toArray t1)).alloc (.cells x2.toArray t2)).alloc (.cells x3.toArray t3)) (w.heap.size + 1) t1 x1 ∧ Row ((((w.alloc (.cells x0.toArray t0)).alloc (.cells x1.toArray t1)).alloc (.cells x2.toArray t2)).alloc (.cells x3.toArray t3)) (w.heap.size + 1 + 1) t2 x2 ∧ Row ((((w.alloc (.cells x0.toArray t0)).alloc (.cells x1.toArray t1)).alloc (.cells x2.toArray t2)).alloc (.cells x3.toArray t3)) (w.heap.size + 1 + 1 + 1) t3 x3 ∧ Qa (fun _ => True) w ((((w.alloc (.cells x0.toArray t0)).alloc (.cells x1.toArray t1)).alloc (.cells x2.toArray t2)).alloc (.cells x3.toArray t3)) := by
 have r0 := ((((Row.new w t0 x0).keep ((Qa.refl (fun _ => True) _).alloc (.cells x1.toArray t1)) trivial).keep ((Qa.refl (fun _ => True) _).alloc (.cells x2.toArray t2)) trivial).keep ((Qa.refl (fun _ => True) _).alloc (.cells x3.toArray t3)) trivial);have r1 := (((Row.new (w.alloc (.cells x0.toArray t0)) t1 x1).keep ((Qa.refl (fun _ => True) _).alloc (.cells x2.toArray t2)) trivial).keep ((Qa.refl (fun _ => True) _).alloc (.cells x3.toArray t3)) trivial);rw [World.size_alloc] at r1;have r2 := ((Row.new ((w.alloc (.cells x0.toArray t0)).alloc (.cells x1.toArray t1)) t2 x2).keep ((Qa.refl (fun _ => True) _).alloc (.cells x3.toArray t3)) trivial);rw [World.size_alloc, World.size_alloc] at r2;have r3 := (Row.new (((w.alloc (.cells x0.toArray t0)).alloc (.cells x1.toArray t1)).alloc (.cells x2.toArray t2)) t3 x3);rw [World.size_alloc, World.size_alloc, World.size_alloc] at r3;exact ⟨r0, r1, r2, r3, (((((Qa.refl (fun _ => True) w).alloc (.cells x0.toArray t0)).alloc (.cells x1.toArray t1)).alloc (.cells x2.toArray t2)).alloc (.cells x3.toArray t3))⟩
abbrev bl (s : ByteArray) : List UInt8 := s.data.toList
def Ju (w : World) (g : Nat) (e : TypeId) (q : Nat) (xs : List Value) : Prop := w.heap[g]? = some (.cells xs.toArray e (q, q + 1))
section
variable {S : Nat → Prop} {w w' : World} {g q : Nat} {e : TypeId} {xs : List Value}
theorem Ju.lt (h : Ju w g e q xs) : g < w.heap.size := by
 rcases Nat.lt_or_ge g w.heap.size with hlt | hge
 ·exact hlt
 ·unfold Ju at h; rw [Array.getElem?_eq_none hge] at h; cases h
theorem Ju.cell (h : Ju w g e q xs) (i : Nat) : w.cell? ⟨g, i, none⟩ = xs[i]? := by
 rw [cell_of_row w g i _ e _ h]; simp
theorem Ju.frozen (h : Ju w g e q xs) (i : Nat) (hi : i < q) : w.frozen? ⟨g, i, none⟩ = false := by
 unfold Ju at h;simp [World.frozen?, h]; omega
theorem Ju.keep (h : Ju w g e q xs) (hk : Qa S w w') (hs : S g) : Ju w' g e q xs := (hk.block g h.lt hs).trans h
theorem Ju.set_ (h : Ju w g e q xs) (i : Nat) (u : Value) : Ju (w.setCell ⟨g, i, none⟩ u) g e q (xs.set i u) := by
 unfold Ju at h ⊢;simp [World.setCell, Array.getElem?_modify, h]
theorem Ju.sl (h : Ju w g e q xs) {n : Nat} (hn : n ≤ xs.length) : Sl w (fun k => k = g) 1 (some ⟨g, 0, none⟩) n (xs.take n) := by
 refine ⟨by simp; omega, fun _ => ⟨_, rfl, rfl, fun j u hu => ?_⟩⟩;have e0 : (⟨g, 0, none⟩ : Addr).add j = ⟨g, j, none⟩ := by unfold Addr.add; split <;> simp_all
 rw [e0, h.cell];rw [List.getElem?_take] at hu;split at hu
 ·exact hu
 ·cases hu
end
theorem Ju.by_ {w : World} {g q c n : Nat} {e : TypeId} {l : List UInt8} {more : List Value} (h : Ju w g e q (cs8 l ++ more)) (hn : l.length = n) (hc : n ≤ c) (hm : c ≤ maxLen) : By w (fun k => k = g) (.slice (some ⟨g, 0, none⟩) n c) l := by
 subst hn;have h1 := h.sl (n := l.length) (by simp [cs8]);rw [List.take_append_of_le_length (by simp [cs8]), List.take_of_length_le (by simp [cs8])] at h1;exact ⟨_, c, rfl, hc, hm, h1⟩
theorem By.conv {P : Program} {w : World} {S : Nat → Prop} {v : Value} {l : List UInt8} (src dst e : TypeId)
  (hs : P.underlying src = some (.slice e)) (he : P.underlying e = some (.int .u8)) (hd : P.underlying dst = some .string) (h : By w S v l) : (convert src dst v).run P w = .ok (.string (str l)) w := by
 obtain ⟨A, c, rfl, _, _, h⟩ := h;exact QaS c src dst e hs he hd h
structure St where
 wall : Int
 tie : Int
deriving DecidableEq
structure Ver where
 at_ : St
 drop : Bool
 data : List UInt8
deriving DecidableEq
structure QZ where
 node : Int
 life : Int
 seq : Int
 attempt : Int
deriving DecidableEq
structure Lck where
 by_ : QZ
 home : Int
 at_ : St
 drop : Bool
 data : List UInt8
deriving DecidableEq
structure Cel where
 key : List UInt8
 vers : List Ver
 locked : Bool
 lock : Lck
deriving DecidableEq
def Lck.zero : Lck := ⟨⟨0, 0, 0, 0⟩, 0, ⟨0, 0⟩, false, []⟩
def QG (a b : St) : Bool := decide (a.wall < b.wall) || (decide (a.wall = b.wall) && decide (a.tie < b.tie))
def QN (s : St) : List Value := [.int .i64 s.wall, .int .i64 s.tie]
def Qz (v : Ver) : List Value := [.int .i64 v.at_.wall, .int .i64 v.at_.tie, .bool v.drop, .string (str v.data)]
def XM (t : QZ) : List Value := [.int .i64 t.node, .int .i64 t.life, .int .i64 t.seq, .int .i64 t.attempt]
def Qn (l : Lck) : List Value := [.int .i64 l.by_.node, .int .i64 l.by_.life, .int .i64 l.by_.seq, .int .i64 l.by_.attempt, .int .i64 l.home, .int .i64 l.at_.wall, .int .i64 l.at_.tie, .bool l.drop, .string (str l.data)]
def Qj (p : Value × Cel) : List Value := [.string (str p.2.key), p.1, .bool p.2.locked] ++ Qn p.2.lock
abbrev stV (s : St) : Value := .agg #[.int .i64 s.wall, .int .i64 s.tie]
abbrev QH (t : QZ) : Value := .agg #[.int .i64 t.node, .int .i64 t.life, .int .i64 t.seq, .int .i64 t.attempt]
abbrev QbT (v : Ver) : Value := .agg #[.int .i64 v.at_.wall, .int .i64 v.at_.tie, .bool v.drop, .string (str v.data)]
abbrev Q4 (l : Lck) : Value := .agg #[.int .i64 l.by_.node, .int .i64 l.by_.life, .int .i64 l.by_.seq, .int .i64 l.by_.attempt, .int .i64 l.home, .int .i64 l.at_.wall, .int .i64 l.at_.tie, .bool l.drop, .string (str l.data)]
abbrev KO (u : Value) (c : Cel) : Value := .agg #[.string (str c.key), u, .bool c.locked, .int .i64 c.lock.by_.node, .int .i64 c.lock.by_.life, .int .i64 c.lock.by_.seq, .int .i64 c.lock.by_.attempt, .int .i64 c.lock.home, .int .i64 c.lock.at_.wall, .int .i64 c.lock.at_.tie, .bool c.lock.drop, .string (str c.lock.data)]
theorem Kn {α : Type} (f : α → List Value) (n : Nat) (hf : ∀ x, (f x).length = n) : ∀ (l : List α) (i j : Nat) (h : i < l.length), j < n → (l.flatMap f)[i * n + j]? = (f l[i])[j]?
 | [], i, j, h, _ => absurd h (Nat.not_lt_zero _)
 | x :: l, 0, j, _, hj => by
  rw [List.flatMap_cons, List.getElem?_append_left (by rw [hf]; omega)];simp
 | x :: l, i + 1, j, h, hj => by
  have e : (i + 1) * n + j = n + (i * n + j) := by rw [Nat.add_mul]; omega
  rw [List.flatMap_cons, List.getElem?_append_right (by rw [hf, e]; omega), hf, e];have := Kn f n hf l i j (by simpa using h) hj;rw [show n + (i * n + j) - n = i * n + j from by omega];simpa using this
theorem XK {α : Type} (f : α → List Value) (n : Nat) (hf : ∀ x, (f x).length = n) : ∀ l : List α, (l.flatMap f).length = l.length * n
 | [] => by simp
 | x :: l => by rw [List.flatMap_cons, List.length_append, hf, XK f n hf l, List.length_cons, Nat.add_mul]; omega
def Qw {α : Type} (f : α → List Value) (n : Nat) (w : World) (S : Nat → Prop) (v : Value) (l : List α) : Prop :=
 ∃ A c, v = .slice A l.length c ∧ l.length ≤ c ∧ c ≤ maxLen ∧ Sl w S n A l.length (l.flatMap f)
section
variable {α : Type} {f : α → List Value} {n : Nat} {w w' : World} {S S' : Nat → Prop} {v : Value} {l : List α}
theorem Qw.keep (h : Qw f n w S v l) (hs : Qa S w w') : Qw f n w' S v l := by
 obtain ⟨A, c, h1, h2, h3, h4⟩ := h;exact ⟨A, c, h1, h2, h3, h4.keep hs⟩
theorem Qw.keepAll (h : Qw f n w S v l) (hs : Qa (fun _ => True) w w') : Qw f n w' S v l := h.keep (hs.mono fun _ _ _ => tv)
theorem Qw.mono (h : Qw f n w S v l) (hn : 0 < n) (hS : ∀ k, k < w.heap.size → S k → S' k) : Qw f n w S' v l := by
 obtain ⟨A, c, h1, h2, h3, h4⟩ := h;exact ⟨A, c, h1, h2, h3, h4.mono hS hn⟩
theorem Qw.at_ (h : Qw f n w S v l) (hf : ∀ x, (f x).length = n) {i : Nat} (hi : i < l.length) :
  ∃ ad c, v = .slice (some ad) l.length c ∧ l.length ≤ c ∧ c ≤ maxLen ∧ S ad.block ∧ ∀ j, j < n → w.cell? ((ad.add (i * n)).add j) = (f l[i])[j]? := by
 obtain ⟨A, c, h1, h2, h3, h4⟩ := h;obtain ⟨ad, rfl, hS, hc⟩ := h4.2 (by omega);refine ⟨ad, c, h1, h2, h3, hS, fun j hj => ?_⟩;rw [JA];have := Kn f n hf l i j hi hj;have hj' : j < (f l[i]).length := by rw [hf]; exact hj
 rw [List.getElem?_eq_getElem hj'] at this ⊢;exact hc _ _ this
theorem Qw.nil_ (w : World) (S : Nat → Prop) (A : Option Addr) (c : Nat) (hc : c ≤ maxLen) : Qw f n w S (.slice A 0 c) [] := ⟨A, c, rfl, by simp, hc, by simpa using Sl.nil w S n A⟩
end
theorem add_zero (a : Addr) : a.add 0 = a := by simp [Addr.add]
theorem JK (a : Addr) (j : Nat) (h : 0 < j) : a.add j = ⟨a.block, a.off + j, none⟩ := by unfold Addr.add; rw [if_neg (by omega)]
theorem Qq (v : Ver) : (Qz v).length = 4 := rfl
theorem Qp (p : Value × Cel) : (Qj p).length = 12 := rfl
abbrev Zl (w : World) (S : Nat → Prop) (v : Value) (l : List Ver) : Prop := Qw Qz 4 w S v l
def QU (w : World) (S : Nat → Prop) (v : Value) (cs : List Cel) : Prop :=
 ∃ us : List Value, us.length = cs.length ∧ Qw Qj 12 w S v (us.zip cs) ∧ ∀ i (h : i < cs.length) (h' : i < us.length), Zl w S us[i] cs[i].vers
section
variable {w w' : World} {S S' : Nat → Prop} {v : Value} {l : List Ver} {cs : List Cel}
theorem QU.keep (h : QU w S v cs) (hs : Qa S w w') : QU w' S v cs := by
 obtain ⟨us, h1, h2, h3⟩ := h;exact ⟨us, h1, h2.keep hs, fun i a b => (h3 i a b).keep hs⟩
theorem QU.keepAll (h : QU w S v cs) (hs : Qa (fun _ => True) w w') : QU w' S v cs := h.keep (hs.mono fun _ _ _ => tv)
theorem QU.mono (h : QU w S v cs) (hS : ∀ k, k < w.heap.size → S k → S' k) : QU w S' v cs := by
 obtain ⟨us, h1, h2, h3⟩ := h;exact ⟨us, h1, h2.mono (by omega) hS, fun i a b => (h3 i a b).mono (by omega) hS⟩
theorem QU.form (h : QU w S v cs) : ∃ A c, v = .slice A cs.length c ∧ cs.length ≤ c ∧ c ≤ maxLen := by
 obtain ⟨us, h1, ⟨A, c, h2, h3, h4, _⟩, _⟩ := h;have e : (us.zip cs).length = cs.length := by simp [h1]
 rw [e] at h2 h3;exact ⟨A, c, h2, h3, h4⟩
theorem Zl.form (h : Zl w S v l) : ∃ A c, v = .slice A l.length c ∧ l.length ≤ c ∧ c ≤ maxLen := by
 obtain ⟨A, c, h1, h2, h3, _⟩ := h;exact ⟨A, c, h1, h2, h3⟩
theorem Zl.cells {A : Option Addr} {n c : Nat} (h : Zl w S (.slice A n c) l) {i : Nat} (hi : i < l.length) : ∃ ad, A = some ad ∧ S ad.block ∧
  w.cell? (ad.add (i * 4)) = some (.int .i64 l[i].at_.wall) ∧ w.cell? ⟨(ad.add (i * 4)).block, (ad.add (i * 4)).off + 1, none⟩ = some (.int .i64 l[i].at_.tie) ∧ w.cell? ⟨(ad.add (i * 4)).block, (ad.add (i * 4)).off + 2, none⟩ = some (.bool l[i].drop) ∧ w.cell? ⟨(ad.add (i * 4)).block, (ad.add (i * 4)).off + 3, none⟩ = some (.string (str l[i].data)) := by
 obtain ⟨ad, c, h1, h2, h3, h4, h5⟩ := Qw.at_ h Qq hi;injection h1 with h1 _ _;exact ⟨ad, h1, h4, by have := h5 0 (by omega); rwa [add_zero] at this, h5 1 (by omega), h5 2 (by omega), h5 3 (by omega)⟩
theorem QU.cells {A : Option Addr} {n c : Nat} (h : QU w S (.slice A n c) cs) {i : Nat} (hi : i < cs.length) : ∃ ad u, A = some ad ∧ S ad.block ∧ Zl w S u cs[i].vers ∧
  w.cell? (ad.add (i * 12)) = some (.string (str cs[i].key)) ∧ ∀ j, 0 < j → j < 12 → w.cell? ⟨(ad.add (i * 12)).block, (ad.add (i * 12)).off + j, none⟩ = (Qj (u, cs[i]))[j]? := by
 obtain ⟨us, h1, h2, h3⟩ := h;have e : (us.zip cs).length = cs.length := by simp [h1]
 obtain ⟨ad, c, a1, a2, a3, a4, a5⟩ := Qw.at_ h2 Qp (i := i) (by omega);have e2 : (us.zip cs)[i]'(by omega) = (us[i]'(by omega), cs[i]) := by simp
 rw [e2] at a5;injection a1 with a1 _ _;refine ⟨ad, us[i]'(by omega), a1, a4, h3 i hi (by omega), by have := a5 0 (by omega); rwa [add_zero] at this, fun j h0 hj => ?_⟩;have := a5 j hj;rw [JK _ j h0] at this;exact this
theorem QU.cells12 {A : Option Addr} {n c : Nat} (h : QU w S (.slice A n c) cs) {i : Nat} (hi : i < cs.length) : ∃ ad u, A = some ad ∧ S ad.block ∧ Zl w S u cs[i].vers ∧
  w.cell? (ad.add (i * 12)) = some (.string (str cs[i].key)) ∧ w.cell? ⟨(ad.add (i * 12)).block, (ad.add (i * 12)).off + 1, none⟩ = some (u) ∧ w.cell? ⟨(ad.add (i * 12)).block, (ad.add (i * 12)).off + 2, none⟩ = some (.bool cs[i].locked) ∧ w.cell? ⟨(ad.add (i * 12)).block, (ad.add (i * 12)).off + 3, none⟩ = some (.int .i64 cs[i].lock.by_.node) ∧ w.cell? ⟨(ad.add (i * 12)).block, (ad.add (i * 12)).off + 4, none⟩ = some (.int .i64 cs[i].lock.by_.life) ∧ w.cell? ⟨(ad.add (i * 12)).block, (ad.add (i * 12)).off + 5, none⟩ = some (.int .i64 cs[i].lock.by_.seq) ∧ w.cell? ⟨(ad.add (i * 12)).block, (ad.add (i * 12)).off + 6, none⟩ = some (.int .i64 cs[i].lock.by_.attempt) ∧ w.cell? ⟨(ad.add (i * 12)).block, (ad.add (i * 12)).off + 7, none⟩ = some (.int .i64 cs[i].lock.home) ∧ w.cell? ⟨(ad.add (i * 12)).block, (ad.add (i * 12)).off + 8, none⟩ = some (.int .i64 cs[i].lock.at_.wall) ∧ w.cell? ⟨(ad.add (i * 12)).block, (ad.add (i * 12)).off + 9, none⟩ = some (.int .i64 cs[i].lock.at_.tie) ∧ w.cell? ⟨(ad.add (i * 12)).block, (ad.add (i * 12)).off + 10, none⟩ = some (.bool cs[i].lock.drop) ∧ w.cell? ⟨(ad.add (i * 12)).block, (ad.add (i * 12)).off + 11, none⟩ = some (.string (str cs[i].lock.data)) := by
 obtain ⟨ad, u, h1, h2, h3, h4, h5⟩ := h.cells hi;exact ⟨ad, u, h1, h2, h3, h4, h5 1 (by omega) (by omega), h5 2 (by omega) (by omega), h5 3 (by omega) (by omega), h5 4 (by omega) (by omega), h5 5 (by omega) (by omega), h5 6 (by omega) (by omega), h5 7 (by omega) (by omega), h5 8 (by omega) (by omega), h5 9 (by omega) (by omega), h5 10 (by omega) (by omega), h5 11 (by omega) (by omega)⟩
end
end Go.Proofs.Ytoldelocfmpccaa
namespace Go.Proofs
open Go.Shelf
def Try.lays106_ren : Go.Shelf.Ren := ⟨fun | 106 => 96 | 213 => 109 | 265 => 115 | n => n, fun | 9 => 9 | 3 => 3 | n => n, fun | n => n⟩
theorem Try.lays106 : Go.Proofs.Lays.n106 Try.prog Try.lays106_ren := {
 mixed := by kernel_rfl
 f106 := Try.func96.trans (congrArg some (by kernel_rfl))
 f213 := Try.func109.trans (congrArg some (by kernel_rfl))
 f265 := Try.func115.trans (congrArg some (by kernel_rfl))
 t3 := Try.underlying3
 a3 := Try.isAgg3
 z3 := Try.sizeOf3
 v3 := Try.zeroValue3
 t9 := Try.underlying9
 a9 := Try.isAgg9
 z9 := Try.sizeOf9
 v9 := Try.zeroValue9 }
open Go.RowKit in
theorem Try.strings_Compare (a b : ByteArray) (w : World) :
  Calls Try.prog 96 #[.string a, .string b] w fun e w' => e = .returned (.int .i64 (Lib.compareBytes a.data.toList b.data.toList)) ∧ w' = w := Any.strings_Compare Try.lays106 a b w
end Go.Proofs
namespace Go.Proofs.Ytoldelocfmpccaa
open Go.RowKit
def Ki (a b : Int) : Int := if a < b then -1 else if b < a then 1 else 0
set_option maxHeartbeats 400000 in
theorem WG (a b : Int) (w : World) : Calls Try.prog 100 #[.int .i64 a, .int .i64 b] w fun e w' => e = .returned (.int .i64 (Ki a b)) ∧ w = w' := by
 have nan : ∀ (x : Int) (w : World), Calls Try.prog 111 #[.int .i64 x] w fun e w' => e = .returned (.bool false) ∧ w = w' := by
  intro x w;go_enter Try.func111, Try.ntmps111;go_wp2;go_ret;exact ⟨by simp, rfl⟩
 by_cases h1 : a < b
 ·have K : Ki a b = -1 := by unfold Ki; rw [if_pos h1]
  rw [K];clear K;go_enter Try.func100, Try.ntmps100;go_wp2_with (go_at_call 111; refine (nan _ _).mono ?_; rintro e w' ⟨rfl, rfl⟩);go_ret;exact ⟨rfl, rfl⟩
 ·by_cases h2 : b < a
  ·have K : Ki a b = 1 := by unfold Ki; rw [if_neg h1, if_pos h2]
   rw [K];clear K;go_enter Try.func100, Try.ntmps100;go_wp2_with (go_at_call 111; refine (nan _ _).mono ?_; rintro e w' ⟨rfl, rfl⟩);go_ret;exact ⟨rfl, rfl⟩
  ·have K : Ki a b = 0 := by unfold Ki; rw [if_neg h1, if_neg h2]
   rw [K];clear K;go_enter Try.func100, Try.ntmps100;go_wp2_with (go_at_call 111; refine (nan _ _).mono ?_; rintro e w' ⟨rfl, rfl⟩);go_ret;exact ⟨rfl, rfl⟩
theorem YB {a b : Int} (h : a = b) : Ending.returned (.int .i64 a) = .returned (.int .i64 b) := by rw [h]
def orF (a b : Int) : Int := if a = 0 then b else a
set_option maxHeartbeats 400000 in
theorem Qa2 (a b : Int) (g : Nat) (w : World) (h0 : w.cell? ⟨g, 0, none⟩ = some (.int .i64 a)) (h1 : w.cell? ⟨g, 1, none⟩ = some (.int .i64 b)) :
  Calls Try.prog 99 #[.slice (some ⟨g, 0, none⟩) 2 2] w fun e w' => e = .returned (.int .i64 (orF a b)) ∧ w = w' := by
 go_enter Try.func99, Try.ntmps99;go_wp2;go_loop [5, 8] (fun _ i => ∃ k : Nat, k ≤ 2 ∧ i = .int .i64 k ∧ (0 < k → a = 0) ∧ (1 < k → b = 0)) (fun _ i => 2 - (intOf i).toNat)
 case atStart => exact ⟨0, by omega, rfl, by omega, by omega⟩
 case round =>
  obtain ⟨k, hk, rfl, ha, hb⟩ := hrel
  match k, hk with
  | 0, _ =>
   clear ha hb;by_cases hz : a = 0
   ·have e1 : (a != 0) = false := by simpa using hz
    have HZ := LH hz;clear hz;go_wp2;exact ⟨⟨1, by omega, by go_num, fun _ => HZ.out, by omega⟩, by simp [intOf]⟩
   ·have e1 : (a != 0) = true := by simpa using hz
    have HZ := LH hz;clear hz;go_wp2;go_ret;exact ⟨YB (by unfold orF; rw [if_neg HZ.out]), rfl⟩
  | 1, _ =>
   have hz := ha (by omega);clear ha hb;by_cases hy : b = 0
   ·have e1 : (b != 0) = false := by simpa using hy
    have HZ := LH hz;have HY := LH hy;clear hz hy;go_wp2;exact ⟨⟨2, by omega, by go_num, fun _ => HZ.out, fun _ => HY.out⟩, by simp [intOf]⟩
   ·have e1 : (b != 0) = true := by simpa using hy
    have HZ := LH hz;clear hz hy;go_wp2;go_ret;exact ⟨YB (by unfold orF; rw [if_pos HZ.out]), rfl⟩
  | 2, _ =>
   have hz := ha (by omega);have hy := hb (by omega);have HZ := LH hz;have HY := LH hy;clear hz hy ha hb;go_wp2;go_ret;exact ⟨YB (by unfold orF; rw [if_pos HZ.out, HY.out]), rfl⟩
theorem Qaq (a b : St) : decide (orF (Ki a.wall b.wall) (Ki a.tie b.tie) < 0) = QG a b := by
 rw [Bool.eq_iff_iff];unfold QG orF Ki;simp only [decide_eq_true_eq, Bool.or_eq_true, Bool.and_eq_true];constructor
 ·intro h;by_cases h1 : a.wall < b.wall
  ·exact .inl h1
  ·by_cases h2 : b.wall < a.wall
   ·simp [h1, h2] at h
   ·simp only [h1, h2, if_false, if_true] at h;right;refine ⟨by omega, ?_⟩;by_cases h3 : a.tie < b.tie
    ·exact h3
    ·by_cases h4 : b.tie < a.tie <;> simp [h3, h4] at h
 ·rintro (h | ⟨h1, h2⟩)
  ·simp [h]
  ·simp [h1, h2]
set_option maxHeartbeats 1000000 in
theorem Z5 (a b : St) (w : World) : Calls Try.prog 71 #[stV a, stV b] w fun e w' => e = .returned (.bool (QG a b)) ∧ Qa (fun _ => True) w w' := by
 have HL := LH (Qaq a b);go_enter Try.func71, Try.ntmps71;go_wp2;obtain ⟨W, hW⟩ : ∃ W, W = (w.alloc (.cells #[.int .i64 a.wall, .int .i64 a.tie] 28)).alloc (.cells #[.int .i64 b.wall, .int .i64 b.tie] 28) := ⟨_, rfl⟩;have hr1 : Row W w.heap.size 28 (QN a) := by rw [hW]; exact (Row.new w 28 (QN a)).keep ((ST).alloc _) tv
 have hr2 : Row W (w.heap.size + 1) 28 (QN b) := by
  have := Row.new (w.alloc (.cells #[.int .i64 a.wall, .int .i64 a.tie] 28)) 28 (QN b);rw [World.size_alloc] at this;rw [hW]; exact this
 have hS : Qa (fun _ => True) w W := by rw [hW]; exact (SR.alloc _).alloc _
 have c0 : W.cell? ⟨w.heap.size, 0, none⟩ = some (.int .i64 a.wall) := hr1.cell 0;have c1 : W.cell? ⟨w.heap.size, 1, none⟩ = some (.int .i64 a.tie) := hr1.cell 1;have c2 : W.cell? ⟨w.heap.size + 1, 0, none⟩ = some (.int .i64 b.wall) := hr2.cell 0;have c3 : W.cell? ⟨w.heap.size + 1, 1, none⟩ = some (.int .i64 b.tie) := hr2.cell 1;have z1 := hr1.lt;have z2 := hr2.lt;rw [← hW];have HS := LH hS;clear hr1 hr2 hW hS;generalize w.heap.size + 1 = q at *;generalize hp : w.heap.size = p at *;clear hp;go_region_held3 (fun w' => w'.cell? ⟨p, 0, none⟩ = some (.int .i64 a.wall) ∧ w'.cell? ⟨p, 1, none⟩ = some (.int .i64 a.tie) ∧ w'.cell? ⟨q, 0, none⟩ = some (.int .i64 b.wall) ∧ w'.cell? ⟨q, 1, none⟩ = some (.int .i64 b.tie)) (go_keep) ((first | (go_at_call 100; refine (WG _ _ _).mono ?_; rintro e w' ⟨rfl, rfl⟩) | (go_at_call 99; refine (Qa2 (Ki a.wall b.wall) (Ki a.tie b.tie) _ _ (by simp) (by simp)).mono ?_; rintro e w' ⟨rfl, rfl⟩)));go_wp2;go_ret;refine ⟨by rw [← HL.out]; rfl, ?_⟩
 first | exact (HS.out.drew).alloc _ | exact (HS.out.alloc _).drew | trace_state
theorem Qar {a b : Bool} (h : a = b) : Ending.returned (.bool a) = .returned (.bool b) := by rw [h]
def XF (l : List Ver) (a : St) : Nat → Int
  | 0 => -1
  | n + 1 => match l[n]? with
    | some v => if QG a v.at_ then XF l a n else n
    | none => XF l a n
def Xs (l : List Ver) (a : St) : Int := XF l a l.length
theorem ZR {l : List Ver} {a : St} {k : Nat} (h : k < l.length) : XF l a (k + 1) = if QG a l[k].at_ then XF l a k else (k : Int) := by
  simp only [XF, List.getElem?_eq_getElem h]
theorem Uf (l : List Ver) (a : St) : ∀ n, -1 ≤ XF l a n ∧ XF l a n < n
  | 0 => by simp [XF]
  | n + 1 => by
    have := Uf l a n;unfold XF;split
    · split <;> constructor <;> omega
    · constructor <;> omega
theorem Jm (l : List Ver) (a : St) : -1 ≤ Xs l a ∧ Xs l a < l.length := Uf l a l.length
set_option maxHeartbeats 1000000 in
theorem Yq (v : Value) (l : List Ver) (a : St) (S : Nat → Prop) (w : World) (hv : Zl w S v l) :
    Calls Try.prog 72 #[v, stV a] w fun e w' => e = .returned (.int .i64 (Xs l a)) ∧ Qa (fun _ => True) w w' := by
  obtain ⟨A, c, rfl, hc, hm⟩ := hv.form;have Hv := LH hv;have hrow := Row.new w 28 (QN a);have Hrow := LH hrow;unfold maxLen at hm;clear hv hrow;go_enter Try.func72, Try.ntmps72;go_wp2;go_loopw [5] (fun i wr => ∃ j : Int, i = .int .i64 j ∧ -1 ≤ j ∧ j < l.length ∧ XF l a (j + 1).toNat = Xs l a ∧ Row wr w.heap.size 28 (QN a) ∧ Qa (fun _ => True) w wr) (fun i _ => (intOf i + 1).toNat)
  case atStart => exact ⟨_, rfl, by omega, by omega, by unfold Xs; congr 1; omega, Hrow.out, SR.alloc _⟩
  case round =>
    obtain ⟨j, rfl, h1, h2, hl, hrow, hS⟩ := hrel;have Hr := LH hrow;have HS := LH hS;have c0 : wr.cell? ⟨w.heap.size, 0, none⟩ = some (.int .i64 a.wall) := hrow.cell 0;have c1 : wr.cell? ⟨w.heap.size, 1, none⟩ = some (.int .i64 a.tie) := hrow.cell 1;by_cases hj : 0 ≤ j
    · obtain ⟨k, rfl⟩ := Int.eq_ofNat_of_zero_le hj;have hk : k < l.length := by omega
      obtain ⟨ad, rfl, -, d0, d1, -, -⟩ := Zl.cells (Hv.out.keepAll hS) hk;rw [show (((k : Nat) : Int) + 1).toNat = k + 1 from by omega, ZR hk] at hl;have g := fun W => Z5 a l[k].at_ W
      have x1 : (0 : Int) ≤ (k : Int) := by omega
      have x2 : (k : Int) < (l.length : Int) := by omega
      generalize l[k].at_ = b at *;cases hb : QG a b
      · rw [hb] at g hl;have Hl := LH hl;clear hb hl hrow hS;go_wp2;go_region_held3 (fun w' => w'.cell? ⟨w.heap.size, 0, none⟩ = some (.int .i64 a.wall) ∧ w'.cell? ⟨w.heap.size, 1, none⟩ = some (.int .i64 a.tie) ∧ w'.cell? (ad.add (k * 4)) = some (.int .i64 b.wall) ∧ w'.cell? ⟨(ad.add (k * 4)).block, (ad.add (k * 4)).off + 1, none⟩ = some (.int .i64 b.tie)) (first | go_keep | exact ⟨hS3.cell (p := ⟨w.heap.size, 0, none⟩) tv (by assumption), hS3.cell (p := ⟨w.heap.size, 1, none⟩) tv (by assumption), hS3.cell (p := ad.add (k * 4)) tv (by assumption), hS3.cell (p := ⟨(ad.add (k * 4)).block, (ad.add (k * 4)).off + 1, none⟩) tv (by assumption)⟩) ((go_at_call 71; refine (g _).mono ?_; rintro e w3 ⟨rfl, hS3⟩));go_wp2;go_ret;refine ⟨YB ?_, (HS.out.drew).trans hS3⟩;rw [← Hl.out]; rfl
      · rw [hb] at g hl;have Hl := LH hl;clear hb hl hrow hS;go_wp2;go_region_held3 (fun w' => w'.cell? ⟨w.heap.size, 0, none⟩ = some (.int .i64 a.wall) ∧ w'.cell? ⟨w.heap.size, 1, none⟩ = some (.int .i64 a.tie) ∧ w'.cell? (ad.add (k * 4)) = some (.int .i64 b.wall) ∧ w'.cell? ⟨(ad.add (k * 4)).block, (ad.add (k * 4)).off + 1, none⟩ = some (.int .i64 b.tie)) (first | go_keep | exact ⟨hS3.cell (p := ⟨w.heap.size, 0, none⟩) tv (by assumption), hS3.cell (p := ⟨w.heap.size, 1, none⟩) tv (by assumption), hS3.cell (p := ad.add (k * 4)) tv (by assumption), hS3.cell (p := ⟨(ad.add (k * 4)).block, (ad.add (k * 4)).off + 1, none⟩) tv (by assumption)⟩) ((go_at_call 71; refine (g _).mono ?_; rintro e w3 ⟨rfl, hS3⟩));go_wp2;have hS4 := ((Qa.refl (fun _ => True) wr).drew).trans hS3;go_roundw
        case rel =>
          refine ⟨(k : Int) - 1, rfl, by omega, by omega, ?_, Hr.out.keep hS4 tv, HS.out.trans hS4⟩;rw [← Hl.out];simp only [if_true];congr 1;omega
        case measure => simp [intOf]
    · obtain rfl : j = -1 := by omega
      have Hl := LH hl;clear hl hrow hS;go_wp2;go_ret;exact ⟨YB (by rw [← Hl.out]; rfl), HS.out⟩
set_option maxHeartbeats 400000 in
theorem X8 (a b : St) (w : World) : Calls Try.prog 28 #[stV a, stV b] w fun e w' => e = .returned (.bool (QG a b)) ∧ Qa (fun _ => True) w w' := by
  have H : QG a b = (decide (a.wall < b.wall) || (decide (a.wall = b.wall) && decide (a.tie < b.tie))) := rfl;by_cases h1 : a.wall < b.wall <;> by_cases h2 : a.wall = b.wall <;> by_cases h3 : a.tie < b.tie
  all_goals
    simp only [h1, h2, h3, decide_true, decide_false, Bool.true_or, Bool.false_or, Bool.and_true, Bool.and_false, Bool.and_self] at H;rw [H];clear H
    first
    | (exfalso; omega)
    | (first
       | have k2 : (a.wall == b.wall) = true := by simpa using h2
       | have k2 : (a.wall == b.wall) = false := by simpa using h2
       clear h2
       try have k1 : decide (a.wall < b.wall) = false := decide_eq_false h1
       try have k3 : decide (a.tie < b.tie) = false := decide_eq_false h3
       go_enter Try.func28, Try.ntmps28;go_wp2;go_ret
       exact ⟨Qar (by first | rfl | simp_all), (SR.alloc _).alloc _⟩)
def ZY (l : List Ver) (a : St) : List UInt8 × Bool :=
 match l[(Xs l a).toNat]? with
 | some v => if Xs l a < 0 ∨ v.drop = true then ([], false) else (v.data, true)
 | none => ([], false)
def Qbn (r : List UInt8 × Bool) (w : World) (e : Ending) (w' : World) : Prop := e = .returned (.tuple #[.string (str r.1), .bool r.2]) ∧ Qa (fun _ => True) w w'
set_option maxHeartbeats 1000000 in
theorem Vu (u : Value) (c : Cel) (a : St) (S : Nat → Prop) (w : World) (hv : Zl w S u c.vers) :
  Calls Try.prog 70 #[KO u c, stV a] w (Qbn (ZY c.vers a) w) := by
 obtain ⟨A, cp, rfl, hc, hm⟩ := hv.form;have Hv := LH hv;have hbd := Jm c.vers a;unfold maxLen at hm;clear hv;obtain ⟨L, hL⟩ : ∃ L, Xs c.vers a = L := ⟨_, rfl⟩;rw [hL] at hbd;have HL := LH hL;have g := fun V W h => Yq V c.vers a S W h
 rw [hL] at g;clear hL;go_enter Try.func70, Try.ntmps70;go_wp2_with (go_at_call 72; refine Qf ?_);unfold Hid;have hsm : Qa (fun _ => True) w ((w.alloc (.cells (Qj (.slice A c.vers.length cp, c)).toArray 64)).alloc (.cells (QN a).toArray 28)) := (SR.alloc _).alloc _;have hrow := (Row.new w 64 (Qj (.slice A c.vers.length cp, c))).keep ((ST).alloc (.cells (QN a).toArray 28)) tv;refine (g _ _ (Qw.keepAll Hv.out hsm)).mono ?_;rintro e w1 ⟨rfl, hS⟩;have c1 : w1.cell? ⟨w.heap.size, 1, none⟩ = some (.slice A c.vers.length cp) := (hrow.keep hS tv).cell 1;have hv1 := Qw.keepAll (Qw.keepAll Hv.out hsm) hS;have HS := LH (hsm.trans hS);clear hS hsm hrow g;by_cases h0 : L < 0
 ·have K : ZY c.vers a = ([], false) := by
   unfold ZY;rw [HL.out];split
   ·rw [if_pos (.inl h0)]
   ·rfl
  have HK := LH K;have d0 : decide (L < 0) = true := decide_eq_true h0;clear K hv1;go_wp2;go_ret2;rw [HK.out];exact ⟨rfl, HS.out⟩
 ·obtain ⟨k, rfl⟩ := Int.eq_ofNat_of_zero_le (Int.not_lt.1 h0);have hk : k < c.vers.length := by omega
  obtain ⟨ad, rfl, -, -, -, d2, d3⟩ := Zl.cells hv1 hk;have x1 : (0 : Int) ≤ (k : Int) := by omega
  have x2 : (k : Int) < (c.vers.length : Int) := by omega
  have d0 : decide ((k : Int) < 0) = false := decide_eq_false h0
  have K : ZY c.vers a = if c.vers[k].drop = true then ([], false) else (c.vers[k].data, true) := by
   unfold ZY;rw [HL.out];simp only [Int.toNat_natCast, List.getElem?_eq_getElem hk];simp [h0]
  have HK := LH K;clear K hv1 h0;generalize c.vers[k] = b at *;cases hd : b.drop
  ·rw [hd] at d2 HK;clear hd;go_wp2;go_ret2;rw [HK.out];exact ⟨rfl, HS.out⟩
  ·rw [hd] at d2 HK;clear hd;go_wp2;go_ret2;rw [HK.out];exact ⟨rfl, HS.out⟩
def ofP (l : List Ver) (a : St) (k : Nat) : List UInt8 × Bool :=
 match l[(XF l a k).toNat]? with
 | some v => if XF l a k < 0 then ([], false) else (v.data, !v.drop)
 | none => ([], false)
theorem QaD {l : List Ver} {a : St} {k : Nat} (h : k < l.length) : ofP l a (k + 1) = if QG a l[k].at_ then ofP l a k else (l[k].data, !l[k].drop) := by
 unfold ofP;rw [ZR h];cases QG a l[k].at_
 ·simp only [Bool.false_eq_true, if_false, Int.toNat_natCast, List.getElem?_eq_getElem h];rw [if_neg (by omega)]
 ·simp only [if_true]
theorem U0 (l : List Ver) (a : St) : ofP l a 0 = ([], false) := by
 unfold ofP;have e : XF l a 0 = -1 := rfl;rw [e];cases l[(-1 : Int).toNat]? with
 | none => rfl
 | some v => simp
theorem Wx (l : List Ver) (a : St) : ZY l a = if (ofP l a l.length).2 = true then ((ofP l a l.length).1, true) else ([], false) := by
 have hbd := Jm l a;unfold ZY ofP;have e : XF l a l.length = Xs l a := rfl;rw [e];split
 ·by_cases h : Xs l a < 0
  ·simp [h]
  ·rename_i v _;cases hd : v.drop <;> simp [h, hd]
 ·rfl
set_option maxHeartbeats 1000000 in
theorem WP (u : Value) (c : Cel) (a : St) (S : Nat → Prop) (w : World) (hv : Zl w S u c.vers) :
  Calls Try.prog 88 #[KO u c, stV a] w (Qbn (ZY c.vers a) w) := by
 obtain ⟨A, cp, rfl, hc, hm⟩ := hv.form;have Hv := LH hv;unfold maxLen at hm;clear hv;have hsm : Qa (fun _ => True) w ((w.alloc (.cells (Qj (.slice A c.vers.length cp, c)).toArray 64)).alloc (.cells (QN a).toArray 28)) := (SR.alloc _).alloc _;have hrow := (Row.new w 64 (Qj (.slice A c.vers.length cp, c))).keep ((ST).alloc (.cells (QN a).toArray 28)) tv;have hrow2 := Row.new (w.alloc (.cells (Qj (.slice A c.vers.length cp, c)).toArray 64)) 28 (QN a);rw [World.size_alloc] at hrow2;have Hsm := LH hsm;have Hrow := LH hrow;have Hrow2 := LH hrow2;clear hsm hrow hrow2;go_enter Try.func88, Try.ntmps88;go_wp2;go_loopw [6, 7, 8, 9] (fun d b i _ wr => ∃ k : Nat, k ≤ c.vers.length ∧ i = .int .i64 k ∧ d = .string (str (ofP c.vers a k).1) ∧ b = .bool (ofP c.vers a k).2 ∧ Row wr w.heap.size 64 (Qj (.slice A c.vers.length cp, c)) ∧ Row wr (w.heap.size + 1) 28 (QN a) ∧ Qa (fun _ => True) w wr) (fun _ _ i _ _ => c.vers.length - (intOf i).toNat)
 case atStart =>
  exact ⟨0, Nat.zero_le _, rfl, by rw [U0]; rfl, by rw [U0], Hrow.out, Hrow2.out, Hsm.out⟩
 case round =>
  obtain ⟨k, hk, rfl, rfl, rfl, hr1, hr2, hS⟩ := hrel;have HR1 := LH hr1;have HR2 := LH hr2;have HS := LH hS;have c1 : wr.cell? ⟨w.heap.size, 1, none⟩ = some (.slice A c.vers.length cp) := hr1.cell 1;have s0 : wr.cell? ⟨w.heap.size + 1, 0, none⟩ = some (.int .i64 a.wall) := hr2.cell 0;have s1 : wr.cell? ⟨w.heap.size + 1, 1, none⟩ = some (.int .i64 a.tie) := hr2.cell 1;have z1 := hr1.lt;have z2 := hr2.lt;by_cases hlt : k < c.vers.length
  ·obtain ⟨ad, rfl, -, d0, d1, d2, d3⟩ := Zl.cells (Qw.keepAll Hv.out hS) hlt;have hst := QaD (a := a) hlt;have g := fun W => X8 a c.vers[k].at_ W
   have hab := World.block_lt_of_cell? wr _ d0;have x1 : (0 : Int) ≤ (k : Int) := by omega
   have x2 : (k : Int) < (c.vers.length : Int) := by omega
   generalize c.vers[k] = b at *;have hrow := Row.new wr 69 (Qz b);have Hrow := LH hrow;clear hr1 hr2 hS hrow;cases hb : QG a b.at_
   ·rw [hb] at g hst;have Hst := LH hst;clear hb hst;go_wp2_with (go_at_call 28; refine Qf ?_);unfold Hid;refine (g _).mono ?_;rintro e w3 ⟨rfl, hS3⟩;have hrow3 := Hrow.out.keep hS3 tv;have v2 : w3.cell? ⟨wr.heap.size, 2, none⟩ = some (.bool b.drop) := hrow3.cell 2;have v3 : w3.cell? ⟨wr.heap.size, 3, none⟩ = some (.string (str b.data)) := hrow3.cell 3;have hS4 := ((Qa.refl (fun _ => True) wr).alloc (.cells (Qz b).toArray 69)).trans hS3;have HS4 := LH hS4;clear hrow3 hS3 hS4 c1 s0 s1 d0 d1 d2 d3;go_wp2;go_quiet (fail);rename_i nq;go_wp2;go_roundw
    case rel =>
     refine ⟨k + 1, by omega, by go_num, ?_, ?_, HR1.out.keep (HS4.out.drewN nq) tv, HR2.out.keep (HS4.out.drewN nq) tv, HS.out.trans (HS4.out.drewN nq)⟩
     ·rw [Hst.out]; rfl
     ·rw [Hst.out]; rfl
    case measure => simp [intOf]; omega
   ·rw [hb] at g hst;have Hst := LH hst;clear hb hst;go_wp2_with (go_at_call 28; refine Qf ?_);unfold Hid;refine (g _).mono ?_;rintro e w3 ⟨rfl, hS3⟩;have hS4 := ((Qa.refl (fun _ => True) wr).alloc (.cells (Qz b).toArray 69)).trans hS3;have HS4 := LH hS4;clear hS3 hS4 c1 s0 s1 d0 d1 d2 d3;go_wp2;go_roundw
    case rel =>
     refine ⟨k + 1, by omega, by go_num, ?_, ?_, HR1.out.keep HS4.out tv, HR2.out.keep HS4.out tv, HS.out.trans HS4.out⟩
     ·rw [Hst.out]; rfl
     ·rw [Hst.out]; rfl
    case measure => simp [intOf]; omega
  ·obtain rfl : k = c.vers.length := by omega
   have K := Wx c.vers a;generalize ofP c.vers a c.vers.length = pr at *;obtain ⟨pd, pb⟩ := pr;cases pb
   ·have HK := LH K;clear K hr1 hr2 hS;go_wp2;go_ret2;rw [HK.out];exact ⟨rfl, HS.out⟩
   ·have HK := LH K;clear K hr1 hr2 hS;go_wp2;go_ret2;rw [HK.out];exact ⟨rfl, HS.out⟩
end Go.Proofs.Ytoldelocfmpccaa
namespace Go.Proofs.Ytoldelocfmpccaa
def ltB (a b : List UInt8) : Bool := Op.bytesLess a b
theorem ZK (a b : List UInt8) : Op.bytesLess (str a).toList (str b).toList = ltB a b := by
 rw [ByteArray.toList_eq, ByteArray.toList_eq]; rfl
theorem Jq : ∀ a : List UInt8, ltB a a = false
 | [] => rfl
 | c :: a => by
  have := Jq a;unfold ltB at this ⊢;simp [Op.bytesLess, this]
theorem YH : ∀ a b : List UInt8, ltB a b = true ∨ a = b ∨ ltB b a = true
 | [], [] => .inr (.inl rfl)
 | [], _ :: _ => .inl rfl
 | _ :: _, [] => .inr (.inr rfl)
 | c :: a, d :: b => by
  have := YH a b;unfold ltB at this ⊢;simp only [Op.bytesLess, Bool.or_eq_true, decide_eq_true_eq, Bool.and_eq_true, beq_iff_eq, List.cons.injEq];rcases Nat.lt_trichotomy c.toNat d.toNat with h | h | h
  ·exact .inl (.inl (UInt8.lt_iff_toNat_lt.2 h))
  ·have e : c = d := UInt8.toNat_inj.1 h;rcases this with h1 | h1 | h1
   ·exact .inl (.inr ⟨e, h1⟩)
   ·exact .inr (.inl ⟨e, h1⟩)
   ·exact .inr (.inr (.inr ⟨e.symm, h1⟩))
  ·exact .inr (.inr (.inl (UInt8.lt_iff_toNat_lt.2 h)))
theorem Zh : ∀ {a b c : List UInt8}, ltB a b = true → ltB b c = true → ltB a c = true
 | _, [], _, h, _ => by unfold ltB at h; simp [Op.bytesLess] at h
 | _, _ :: _, [], _, h => by unfold ltB at h; simp [Op.bytesLess] at h
 | [], _ :: _, _ :: _, _, _ => rfl
 | x :: a, y :: b, z :: c, h1, h2 => by
  have ih := @Zh a b c;unfold ltB at ih h1 h2 ⊢;simp only [Op.bytesLess, Bool.or_eq_true, decide_eq_true_eq, Bool.and_eq_true, beq_iff_eq] at h1 h2 ⊢;rcases h1 with h1 | ⟨rfl, h1⟩
  ·rcases h2 with h2 | ⟨rfl, h2⟩
   ·left;rw [UInt8.lt_iff_toNat_lt] at h1 h2 ⊢;omega
   ·exact .inl h1
  ·rcases h2 with h2 | ⟨rfl, h2⟩
   ·exact .inl h2
   ·exact .inr ⟨rfl, ih h1 h2⟩
theorem J4 {a b : List UInt8} (h : ltB a b = true) : ltB b a = false := by
 cases h2 : ltB b a
 ·rfl
 ·have := Zh h h2;rw [Jq] at this; cases this
theorem VG {a b : List UInt8} (h : ltB a b = true) : a ≠ b := by
 rintro rfl;rw [Jq] at h; cases h
theorem UB : ∀ a b : List UInt8, Lib.compareBytes a b = if ltB a b then -1 else if a = b then 0 else 1
 | [], [] => rfl
 | [], _ :: _ => rfl
 | _ :: _, [] => rfl
 | c :: a, d :: b => by
  have ih := UB a b;unfold ltB at ih ⊢;simp only [Lib.compareBytes, Op.bytesLess, Bool.or_eq_true, decide_eq_true_eq, Bool.and_eq_true, beq_iff_eq, List.cons.injEq];by_cases h : c < d
  ·simp [h]
  ·by_cases h2 : d < c
   ·have hne : ¬ c = d := by rintro rfl; exact h h2
    simp [h, h2, hne]
   ·have e : c = d := by
     apply UInt8.toNat_inj.1;rw [UInt8.lt_iff_toNat_lt] at h h2;omega
    subst e;simp [h, ih]
theorem Qae (a b : List UInt8) : decide (Lib.compareBytes a b < 0) = ltB a b := by
 rw [UB];cases ltB a b
 ·simp; split <;> omega
 ·rfl
theorem W6 (a b : List UInt8) : (Lib.compareBytes a b == 0) = decide (a = b) := by
 rw [UB];cases h : ltB a b
 ·simp only [Bool.false_eq_true, if_false];by_cases e : a = b
  ·simp [e]
  ·simp [e]
 ·have := VG h;simp [this]
def XI (cs : List Cel) : Prop := ∀ (i j : Nat) (hi : i < cs.length) (hj : j < cs.length), i < j → ltB cs[i].key cs[j].key = true
def Xw (cs : List Cel) (key : List UInt8) : Nat := (cs.takeWhile fun c => ltB c.key key).length
def XB (cs : List Cel) (key : List UInt8) : Bool := match cs[Xw cs key]? with | some c => decide (c.key = key) | none => false
theorem UO {key : List UInt8} : ∀ {cs : List Cel} {i : Nat}, i ≤ cs.length → (∀ k (h : k < cs.length), k < i → ltB cs[k].key key = true) → (∀ k (h : k < cs.length), i ≤ k → ltB cs[k].key key = false) → Xw cs key = i
 | [], i, h0, _, _ => by simp at h0; subst h0; rfl
 | c :: cs, 0, _, _, h2 => by
  have := h2 0 (by simp) (by omega);simp at this;simp [Xw, List.takeWhile_cons, this]
 | c :: cs, i + 1, h0, h1, h2 => by
  have e := h1 0 (by simp) (by omega);simp at e;have ih := UO (key := key) (cs := cs) (i := i) (by simpa using h0) (fun k h hk => by have := h1 (k + 1) (by simpa using h) (by omega); simpa using this) (fun k h hk => by have := h2 (k + 1) (by simpa using h) (by omega); simpa using this);unfold Xw at ih ⊢;simp only [List.takeWhile_cons, e, if_true, List.length_cons, ih]
theorem XI.low {cs : List Cel} (hs : XI cs) {key : List UInt8} {m : Nat} (hm : m < cs.length) (h : ltB cs[m].key key = true) : ∀ k (hk : k < cs.length), k < m + 1 → ltB cs[k].key key = true := by
 intro k hk hkm;rcases Nat.lt_or_ge k m with h1 | h1
 ·exact Zh (hs k m hk hm h1) h
 ·obtain rfl : k = m := by omega
  exact h
theorem XI.high {cs : List Cel} (hs : XI cs) {key : List UInt8} {m : Nat} (hm : m < cs.length) (h : ltB cs[m].key key = false) : ∀ k (hk : k < cs.length), m ≤ k → ltB cs[k].key key = false := by
 intro k hk hkm;rcases Nat.lt_or_ge m k with h1 | h1
 ·cases h2 : ltB cs[k].key key
  ·rfl
  ·have := Zh (hs m k hm hk h1) h2;rw [this] at h; cases h
 ·obtain rfl : k = m := by omega
  exact h
end Go.Proofs.Ytoldelocfmpccaa
namespace Go.Proofs.Ytoldelocfmpccaa
open Go.RowKit
theorem Ka (u : Value) (c : Cel) (key : List UInt8) (w : World) :
  Calls Try.prog 95 #[KO u c, .string (str key)] w fun e w' => e = .returned (.int .i64 (Lib.compareBytes c.key key)) ∧ Qa (fun _ => True) w w' := by
 have g := fun W => Try.strings_Compare (str c.key) (str key) W
 rw [show (str c.key).data.toList = c.key from rfl, show (str key).data.toList = key from rfl] at g;go_enter Try.func95, Try.ntmps95;go_wp2_with (go_at_call 96; refine (g _).mono ?_; rintro e w' ⟨rfl, rfl⟩);go_ret;exact ⟨rfl, SR.alloc _⟩
def WK (cs : List Cel) (key : List UInt8) (i j : Nat) : Prop :=
 i ≤ j ∧ j ≤ cs.length ∧ (∀ k (h : k < cs.length), k < i → ltB cs[k].key key = true) ∧ ∀ k (h : k < cs.length), j ≤ k → ltB cs[k].key key = false
set_option maxHeartbeats 1000000 in
theorem V0 (v : Value) (cs : List Cel) (key : List UInt8) (S : Nat → Prop) (w : World) (hv : QU w S v cs) (hso : XI cs) (hn : cs.length ≤ 1000000) :
  Calls Try.prog 94 #[v, .string (str key), .func (.func 95) #[] #[]] w fun e w' => e = .returned (.tuple #[.int .i64 (Xw cs key), .bool (XB cs key)]) ∧ Qa (fun _ => True) w w' := by
 obtain ⟨A, cp, rfl, hc, hm⟩ := hv.form;have Hv := LH hv;have Hso := LH hso;unfold maxLen at hm;clear hv hso;go_enter Try.func94, Try.ntmps94;go_wp2;go_loopw [9, 10, 11] (fun i j _ wr => ∃ a b : Nat, i = .int .i64 a ∧ j = .int .i64 b ∧ WK cs key a b ∧ Qa (fun _ => True) w wr) (fun i j _ _ => (intOf j).toNat - (intOf i).toNat)
 case atStart => exact ⟨0, cs.length, rfl, rfl, ⟨by omega, Nat.le_refl _, fun k h h2 => absurd h2 (Nat.not_lt_zero _), fun k h h2 => by omega⟩, Qa.refl _ _⟩
 case round =>
  obtain ⟨a, b, rfl, rfl, ⟨h1, h2, h3, h4⟩, hS⟩ := hrel;have HS := LH hS;have H3 := LH h3;have H4 := LH h4;clear h3 h4;by_cases hlt : a < b
  ·have hmb : (a + b) / 2 < cs.length := by omega
   obtain ⟨ad, u, rfl, -, -, c0, c1, c2, c3, c4, c5, c6, c7, c8, c9, c10, c11⟩ := QU.cells12 (Hv.out.keepAll hS) hmb;have x1 : (0 : Int) ≤ (((a + b) / 2 : Nat) : Int) := by omega
   have x2 : (((a + b) / 2 : Nat) : Int) < (cs.length : Int) := by omega
   have g := fun U W => Ka U cs[(a + b) / 2] key W
   have hlow := Hso.out.low (key := key) hmb;have hhigh := Hso.out.high (key := key) hmb;have hcm := Qae cs[(a + b) / 2].key key;have Hlow := LH hlow;have Hhigh := LH hhigh;clear hS hlow hhigh;cases hb : ltB cs[(a + b) / 2].key key
   ·have HB := LH hb;rw [hb] at hcm;clear hb;go_wp2_with (go_at_call 95; refine (g u _).mono ?_; rintro e w3 ⟨rfl, hS3⟩);go_roundw
    case rel => exact ⟨a, (a + b) / 2, rfl, by go_num, ⟨by omega, by omega, H3.out, Hhigh.out HB.out⟩, HS.out.trans hS3⟩
    case measure => simp [intOf]; omega
   ·have HB := LH hb;rw [hb] at hcm;clear hb;go_wp2_with (go_at_call 95; refine (g u _).mono ?_; rintro e w3 ⟨rfl, hS3⟩);go_roundw
    case rel => exact ⟨(a + b) / 2 + 1, b, by go_num, rfl, ⟨by omega, by omega, Hlow.out HB.out, H4.out⟩, HS.out.trans hS3⟩
    case measure => simp [intOf]; omega
  ·obtain rfl : a = b := by omega
   have hpos := UO (key := key) h2 H3.out H4.out;have Hpos := LH hpos;by_cases hin : a < cs.length
   ·obtain ⟨ad, u, rfl, -, -, c0, c1, c2, c3, c4, c5, c6, c7, c8, c9, c10, c11⟩ := QU.cells12 (Hv.out.keepAll hS) hin;have x1 : (0 : Int) ≤ (a : Int) := by omega
    have x2 : (a : Int) < (cs.length : Int) := by omega
    have g := fun U W => Ka U cs[a] key W
    have hf : XB cs key = (Lib.compareBytes cs[a].key key == 0) := by
     unfold XB;rw [hpos, List.getElem?_eq_getElem hin, W6]
    have Hf := LH hf;clear hS hpos hf;go_wp2_with (go_at_call 95; refine (g u _).mono ?_; rintro e w3 ⟨rfl, hS3⟩);go_ret2;rw [Hpos.out, Hf.out];exact ⟨rfl, HS.out.trans hS3⟩
   ·have hf : XB cs key = false := by
     unfold XB;rw [hpos, List.getElem?_eq_none (by omega)]
    have Hf := LH hf;clear hS hpos hf;go_wp2;go_ret2;rw [Hpos.out, Hf.out];exact ⟨rfl, HS.out⟩
set_option maxHeartbeats 1000000 in
theorem ZF (v : Value) (cs : List Cel) (key : List UInt8) (S : Nat → Prop) (w : World) (hv : QU w S v cs) (hso : XI cs) (hn : cs.length ≤ 1000000) :
  Calls Try.prog 68 #[v, .string (str key)] w fun e w' => e = .returned (.tuple #[.int .i64 (Xw cs key), .bool (XB cs key)]) ∧ Qa (fun _ => True) w w' := by
 have g := V0 v cs key S w hv hso hn;go_enter Try.func68, Try.ntmps68;go_wp2_with (go_at_call 94; refine g.mono ?_; rintro e w' ⟨rfl, hS⟩);go_ret2;exact ⟨rfl, hS⟩
theorem KC {cs : List Cel} {key : List UInt8} (h : XB cs key = true) : ∃ hp : Xw cs key < cs.length, cs[Xw cs key].key = key := by
 unfold XB at h;cases hg : cs[Xw cs key]? with
 | none => rw [hg] at h; cases h
 | some c =>
  rw [hg] at h;obtain ⟨h1, h2⟩ := List.getElem?_eq_some_iff.1 hg;exact ⟨h1, by rw [h2]; simpa using h⟩
theorem QaG {cs : List Cel} (hs : XI cs) {key : List UInt8} {k : Nat} (hk : k < cs.length) (h : cs[k].key = key) : Xw cs key = k ∧ XB cs key = true := by
 have e : Xw cs key = k := UO (by omega) (fun i hi hik => by have := hs i k hi hk hik; rwa [h] at this) (fun i hi hik => by
  rcases Nat.lt_or_ge k i with h1 | h1
  ·have := hs k i hk hi h1;rw [h] at this;exact J4 this
  ·obtain rfl : i = k := by omega
   rw [h]; exact Jq key)
 refine ⟨e, ?_⟩;unfold XB;rw [e, List.getElem?_eq_getElem hk];simpa using h
theorem VW {cs : List Cel} {key : List UInt8} (h : ∀ k (hk : k < cs.length), cs[k].key ≠ key) : XB cs key = false := by
 cases hf : XB cs key
 ·rfl
 ·obtain ⟨hp, e⟩ := KC hf;exact absurd e (h _ hp)
set_option maxHeartbeats 1000000 in
theorem JV (v : Value) (cs : List Cel) (key : List UInt8) (S : Nat → Prop) (w : World) (hv : QU w S v cs) (hso : XI cs) :
  Calls Try.prog 89 #[v, .string (str key)] w fun e w' => e = .returned (.int .i64 (if XB cs key then (Xw cs key : Int) else -1)) ∧ w = w' := by
 obtain ⟨A, cp, rfl, hc, hm⟩ := hv.form;have Hv := LH hv;have Hso := LH hso;unfold maxLen at hm;obtain ⟨R, hR⟩ : ∃ R : Int, R = if XB cs key then (Xw cs key : Int) else -1 := ⟨_, rfl⟩
 rw [← hR];have HR := LH hR;clear hR hv hso;go_enter Try.func89, Try.ntmps89;go_wp2;go_loop [5] (fun i => ∃ k : Nat, k ≤ cs.length ∧ i = .int .i64 k ∧ ∀ j (h : j < cs.length), j < k → cs[j].key ≠ key) (fun i => cs.length - (intOf i).toNat)
 case atStart => exact ⟨0, Nat.zero_le _, rfl, fun j _ h => absurd h (Nat.not_lt_zero _)⟩
 case round =>
  obtain ⟨k, hk, rfl, hno⟩ := hrel;have Hno := LH hno;clear hno;by_cases hlt : k < cs.length
  ·obtain ⟨ad, u, rfl, -, -, c0, -⟩ := QU.cells12 Hv.out hlt;have x1 : (0 : Int) ≤ (k : Int) := by omega
   have x2 : (k : Int) < (cs.length : Int) := by omega
   by_cases he : cs[k].key = key
   ·obtain ⟨h1, h2⟩ := QaG Hso.out hlt he;have hR : R = k := by rw [HR.out, h2, h1]; rfl
    have HR2 := LH hR;have q1 : (str cs[k].key).toList = (str key).toList := by rw [he]
    clear hR h1 h2 he;go_wp2;go_ret;exact ⟨by rw [HR2.out]; rfl, rfl⟩
   ·have q1 : ¬ (str cs[k].key).toList = (str key).toList := by rw [ByteArray.toList_eq, ByteArray.toList_eq]; exact he
    have q2 : ((str cs[k].key).toList == (str key).toList) = false := by simpa using q1
    have He := LH he;clear he;go_wp2;refine ⟨⟨k + 1, by omega, by go_num, fun j h hj => ?_⟩, by simp [intOf]; omega⟩;rcases Nat.lt_or_ge j k with h1 | h1
    ·exact Hno.out j h h1
    ·obtain rfl : j = k := by omega
     exact He.out
  ·obtain rfl : k = cs.length := by omega
   have hf := VW (key := key) fun j h => Hno.out j h h
   have hR : R = -1 := by rw [HR.out, hf]; rfl
   have HR2 := LH hR;clear hR hf;go_wp2;go_ret;exact ⟨by rw [HR2.out]; rfl, rfl⟩
def inB (lo hi key : List UInt8) : Bool := !ltB key lo && ltB key hi
theorem Ye {cs : List Cel} (key : List UInt8) : ∀ k (h : k < cs.length), k < Xw cs key → ltB cs[k].key key = true := by
 induction cs with
 | nil => intro k h; simp at h
 | cons c cs ih =>
  intro k h hk;cases hc : ltB c.key key
  ·simp [Xw, List.takeWhile_cons, hc] at hk
  ·cases k with
   | zero => simpa using hc
   | succ k =>
    have := ih k (by simpa using h) (by simp only [Xw, List.takeWhile_cons, hc, if_true, List.length_cons] at hk ⊢; omega);simpa using this
theorem US (cs : List Cel) (key : List UInt8) : Xw cs key ≤ cs.length := (List.takeWhile_prefix _).length_le
theorem V6 {cs : List Cel} (key : List UInt8) (h : Xw cs key < cs.length) : ltB cs[Xw cs key].key key = false := by
 induction cs with
 | nil => simp at h
 | cons c cs ih =>
  cases hc : ltB c.key key
  ·have e : Xw (c :: cs) key = 0 := by simp [Xw, List.takeWhile_cons, hc]
   simp only [e, List.getElem_cons_zero];exact hc
  ·have e : Xw (c :: cs) key = Xw cs key + 1 := by simp [Xw, List.takeWhile_cons, hc]
   simp only [e, List.getElem_cons_succ];exact ih (by rw [e] at h; simpa using h)
theorem Qap {cs : List Cel} (hs : XI cs) {key : List UInt8} {k : Nat} (hk : k < cs.length) : ltB cs[k].key key = decide (k < Xw cs key) := by
 by_cases h : k < Xw cs key
 ·rw [Ye key k hk h, decide_eq_true h]
 ·rw [decide_eq_false h];have hp : Xw cs key < cs.length := by omega
  exact hs.high hp (V6 key hp) k hk (by omega)
theorem Yi {α : Type} (p : α → Bool) : ∀ (l : List α) (i j : Nat), i ≤ j → j ≤ l.length → (∀ k (h : k < l.length), p l[k] = (decide (i ≤ k) && decide (k < j))) → l.filter p = (l.drop i).take (j - i)
 | [], i, j, _, _, _ => by simp
 | x :: l, 0, 0, _, _, h => by
  simp only [List.drop_zero, Nat.sub_self, List.take_zero];rw [List.filter_eq_nil_iff];intro y hy;obtain ⟨k, hk, rfl⟩ := List.mem_iff_getElem.1 hy;rw [h k hk];simp
 | x :: l, 0, j + 1, _, hj, h => by
  have h0 := h 0 (by simp);simp at h0;have ih := Yi p l 0 j (by omega) (by simpa using hj) (fun k hk => by have := h (k + 1) (by simpa using hk); simpa using this);simp only [List.filter_cons, h0, if_true, ih];simp
 | x :: l, i + 1, 0, hij, _, _ => by omega
 | x :: l, i + 1, j + 1, hij, hj, h => by
  have h0 := h 0 (by simp);simp at h0;have ih := Yi p l i j (by omega) (by simpa using hj) (fun k hk => by have := h (k + 1) (by simpa using hk); simpa using this);simp only [List.filter_cons, h0, Bool.false_eq_true, if_false, ih];simp
def Xk (cs : List Cel) (lo hi : List UInt8) : List Cel := cs.filter fun c => inB lo hi c.key
theorem U1 {cs : List Cel} {lo hi : List UInt8} (h : ltB lo hi = false) : Xk cs lo hi = [] := by
 unfold Xk;rw [List.filter_eq_nil_iff];intro c _;unfold inB;intro h2;simp only [Bool.and_eq_true, Bool.not_eq_true'] at h2;rcases YH lo c.key with h3 | h3 | h3
 ·rw [Zh h3 h2.2] at h; cases h
 ·rw [h3, h2.2] at h; cases h
 ·rw [h3] at h2; cases h2.1
theorem Va {cs : List Cel} (hs : XI cs) {lo hi : List UInt8} (h : ltB lo hi = true) : Xw cs lo ≤ Xw cs hi ∧ Xk cs lo hi = (cs.drop (Xw cs lo)).take (Xw cs hi - Xw cs lo) := by
 have hle : Xw cs lo ≤ Xw cs hi := by
  rcases Nat.lt_or_ge (Xw cs hi) (Xw cs lo) with h1 | h1
  ·have hl := US cs lo;have hk : Xw cs hi < cs.length := by omega
   have := Ye lo _ hk h1;have := Zh this h;rw [V6 hi hk] at this;cases this
  ·exact h1
 refine ⟨hle, Yi _ cs _ _ hle (US cs hi) fun k hk => ?_⟩;unfold inB;rw [Qap hs hk, Qap hs hk];congr 1;rw [Bool.eq_iff_iff];simp
theorem Zw {α : Type} (f : α → List Value) (n : Nat) (hf : ∀ x, (f x).length = n) : ∀ (l : List α) (i : Nat), (l.drop i).flatMap f = (l.flatMap f).drop (i * n)
 | l, 0 => by simp
 | [], i + 1 => by simp
 | x :: l, i + 1 => by
  have e0 : (i + 1) * n = n + i * n := by rw [Nat.add_mul]; omega
  have e1 : (f x).drop ((i + 1) * n) = [] := List.drop_eq_nil_of_le (by rw [hf, e0]; omega);rw [List.drop_succ_cons, Zw f n hf l i, List.flatMap_cons, List.drop_append, e1, List.nil_append, hf, e0];congr 1;omega
theorem ZG {α : Type} (f : α → List Value) (n : Nat) (hf : ∀ x, (f x).length = n) : ∀ (l : List α) (i : Nat), (l.take i).flatMap f = (l.flatMap f).take (i * n)
 | l, 0 => by simp
 | [], i + 1 => by simp
 | x :: l, i + 1 => by
  have e0 : (i + 1) * n = n + i * n := by rw [Nat.add_mul]; omega
  have e1 : (f x).take ((i + 1) * n) = f x := List.take_of_length_le (by rw [hf, e0]; omega);rw [List.take_succ_cons, List.flatMap_cons, ZG f n hf l i, List.flatMap_cons, List.take_append, e1, hf, e0];congr 2;omega
theorem Qw.cut {α : Type} {f : α → List Value} {n : Nat} {w : World} {S : Nat → Prop} {l : List α} {A : Option Addr} {m c : Nat} (h : Qw f n w S (.slice A m c) l) (hf : ∀ x, (f x).length = n) {i j : Nat} (hij : i ≤ j) (hj : j ≤ l.length) :
  Qw f n w S (.slice (if c = i then A else A.map (·.add (i * n))) (j - i) (c - i)) ((l.drop i).take (j - i)) := by
 obtain ⟨A', c', h1, h2, h3, h4⟩ := h;injection h1 with e1 e2 e3;subst e1 e2 e3;have hl : ((l.drop i).take (j - i)).length = j - i := by simp; omega
 refine ⟨_, c - i, by rw [hl], by rw [hl]; omega, by omega, ?_⟩;rw [hl, ZG f n hf, Zw f n hf];exact (h4.cut (k := i) (cap := c) (by omega) h2).take (by omega)
theorem QU.cut {w : World} {S : Nat → Prop} {cs : List Cel} {A : Option Addr} {m c : Nat} (h : QU w S (.slice A m c) cs) {i j : Nat} (hij : i ≤ j) (hj : j ≤ cs.length) :
  QU w S (.slice (if c = i then A else A.map (·.add (i * 12))) (j - i) (c - i)) ((cs.drop i).take (j - i)) := by
 obtain ⟨us, h1, h2, h3⟩ := h;have e : (us.zip cs).length = cs.length := by simp [h1]
 have h4 := h2.cut Qp hij (by rw [e]; exact hj);refine ⟨(us.drop i).take (j - i), by simp [h1], ?_, fun k a b => ?_⟩
 ·have e2 : ((us.zip cs).drop i).take (j - i) = ((us.drop i).take (j - i)).zip ((cs.drop i).take (j - i)) := by
   apply List.ext_getElem
   ·simp [h1]
   ·intro k _ _;simp
  rw [← e2];exact h4
 ·simp only [List.getElem_take, List.getElem_drop];exact h3 _ _ _
set_option maxHeartbeats 1000000 in
theorem Ko (v : Value) (cs : List Cel) (lo hi : List UInt8) (S : Nat → Prop) (w : World) (hv : QU w S v cs) (hso : XI cs) (hn : cs.length ≤ 1000000) :
  Calls Try.prog 73 #[v, .agg #[.string (str lo), .string (str hi)]] w fun e w' => (∃ v', e = .returned v' ∧ QU w' S v' (Xk cs lo hi)) ∧ Qa (fun _ => True) w w' := by
 obtain ⟨A, cp, rfl, hc, hm⟩ := hv.form;have Hv := LH hv;have q1 := ZK lo hi;have q2 := ZK hi lo;unfold maxLen at hm;cases hlt : ltB lo hi
 ·have K := U1 (cs := cs) hlt;have HK := LH K
  have q3 : (Op.bytesLess (str hi).toList (str lo).toList || (str hi).toList == (str lo).toList) = true := by
   rw [q2];rcases YH lo hi with h | h | h
   ·rw [h] at hlt; cases hlt
   ·rw [h]; simp
   ·rw [h]; rfl
  clear K hlt q1 q2 hv hso;go_enter Try.func73, Try.ntmps73;go_wp2;go_ret;rw [HK.out];exact ⟨⟨_, rfl, [], rfl, Qw.nil_ _ _ _ _ (by simp [maxLen]), by simp⟩, SR.alloc _⟩
 ·obtain ⟨hle, K⟩ := Va hso hlt;have hle2 := US cs hi;have HK := LH K
  have q3 : (Op.bytesLess (str hi).toList (str lo).toList || (str hi).toList == (str lo).toList) = false := by
   rw [q2, J4 hlt, Bool.false_or, ByteArray.toList_eq, ByteArray.toList_eq];have := VG hlt;simpa [str] using fun e => this e.symm
  have g1 := fun W h => ZF (.slice A cs.length cp) cs lo S W h hso hn
  have g2 := fun W h => ZF (.slice A cs.length cp) cs hi S W h hso hn
  have hrow := Row.new w 53 [.string (str lo), .string (str hi)];have Hrow := LH hrow;clear K hlt q1 q2 hv hso hrow;generalize Xw cs lo = p at *;generalize Xw cs hi = q at *;go_enter Try.func73, Try.ntmps73;go_wp2_with (go_at_call 68; refine Qf ?_);unfold Hid;refine (g1 _ (Hv.out.keepAll (SR.alloc _))).mono ?_;rintro e w1 ⟨rfl, hS1⟩;have hr1 := Hrow.out.keep hS1 tv;have b1 : w1.cell? ⟨w.heap.size, 1, none⟩ = some (.string (str hi)) := hr1.cell 1;have HS1 := LH (((Qa.refl (fun _ => True) w).alloc (.cells #[.string (str lo), .string (str hi)] 53)).trans hS1);clear hS1 hr1;go_wp2_with (go_at_call 68; refine Qf ?_);unfold Hid;refine (g2 _ (Hv.out.keepAll HS1.out)).mono ?_;rintro e w2 ⟨rfl, hS2⟩;have HS2 := LH (HS1.out.trans hS2);clear hS2;have x1 : (0 : Int) ≤ (p : Int) := by omega
  have x2 : (p : Int) ≤ (q : Int) := by omega
  have x3 : (q : Int) ≤ (cp : Int) := by omega
  have hmx : (max (q : Int) (p : Int)).toNat = q := by omega
  have hcut := (Hv.out.keepAll HS2.out).cut hle hle2;rw [← HK.out] at hcut;have Hcut := LH hcut;have Hmx := LH hmx;clear hcut hmx;by_cases h : cp = p
  ·subst h;go_wp2;go_ret;refine ⟨⟨_, rfl, ?_⟩, HS2.out⟩;have := Hcut.out;simp only [if_true, Nat.sub_self] at this;rw [Hmx.out];exact this
  ·go_wp2;go_ret;refine ⟨⟨_, rfl, ?_⟩, HS2.out⟩;have := Hcut.out;rw [if_neg h] at this;rw [Hmx.out];exact this
end Go.Proofs.Ytoldelocfmpccaa
