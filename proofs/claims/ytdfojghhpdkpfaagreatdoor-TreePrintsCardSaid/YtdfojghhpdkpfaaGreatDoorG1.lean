/-
  Words, plain models, laws and walks that the claims of this layer share (joined by shake.py). No condition.
-/
import Derived.WalkKit
import Derived.WalkSpells
import Derived.WalkLawsBesides
import Derived.ProofKit
import Derived.OpenShut
import Derived.ChangeOld
import Derived.Below
import Derived.Carry
import Derived.Deep.Slices
import Derived.Maps.AppendAt
import Derived.Deep.AppendLies
import Derived.RegionTactic
import Derived.OwnWalk
import Derived.Lib.Hide
import Derived.Laws.CopyOwn
import Derived.Laws.BytesArg
import Derived.Orders
import Derived.Lib.IndexMore
import Derived.Laws.IdiomStrings
import Derived.Test.YtdfojghhpdkpfaaGreatDoorRows
import Derived.Outline
import Derived.Deep.QuietTactic
import Derived.BigQuiet
set_option linter.unusedSimpArgs false
set_option linter.unusedVariables false
namespace Go.Proofs.YtdfojghhpdkpfaaGreatDoor
open Go.RowKit Go.ChangeShapes Go.WideShapes Go.ChangeAt
def n8 (c : UInt8) : Int := c.toNat
abbrev V8 (c : UInt8) : Value := .int .u8 (n8 c)
theorem n8_bd (c : UInt8) : 0 ≤ n8 c ∧ n8 c < 256 := by unfold n8; have := c.toNat_lt; omega
theorem n8_inj {a b : UInt8} : n8 a = n8 b ↔ a = b := by
 unfold n8; constructor
 ·intro h; exact UInt8.toNat_inj.1 (by omega)
 ·rintro rfl; rfl
/-- Lets a walk stand still, to look at it. -/
theorem stopAt {p : Prop} (h : Hid p) : p := h
structure Same (S : Nat → Prop) (w w' : World) : Prop where
 os : w'.os = w.os
 tape : w'.tape = w.tape
 output : w'.output = w.output
 size : w.heap.size ≤ w'.heap.size
 block : ∀ k, k < w.heap.size → S k → w'.heap[k]? = w.heap[k]?
section
variable {S S' : Nat → Prop} {w w' w'' : World}
theorem Same.refl (S : Nat → Prop) (w : World) : Same S w w := ⟨rfl, rfl, rfl, Nat.le_refl _, fun _ _ _ => rfl⟩
theorem Same.trans (h : Same S w w') (k : Same S w' w'') : Same S w w'' :=
 ⟨k.os.trans h.os, k.tape.trans h.tape, k.output.trans h.output, Nat.le_trans h.size k.size, fun i hi hs => (k.block i (Nat.lt_of_lt_of_le hi h.size) hs).trans (h.block i hi hs)⟩
/-- The second step may write whatever is new since w. -/
theorem Same.trans' (h : Same S w w') (k : Same S' w' w'') (hs : ∀ i, i < w.heap.size → S i → S' i) : Same S w w'' :=
 ⟨k.os.trans h.os, k.tape.trans h.tape, k.output.trans h.output, Nat.le_trans h.size k.size, fun i hi hS => (k.block i (Nat.lt_of_lt_of_le hi h.size) (hs i hi hS)).trans (h.block i hi hS)⟩
theorem Same.mono (h : Same S w w') (hs : ∀ i, i < w.heap.size → S' i → S i) : Same S' w w' := ⟨h.os, h.tape, h.output, h.size, fun i hi hS => h.block i hi (hs i hi hS)⟩
theorem Same.below (h : Same S w w') {B : Nat} (hB : B ≤ w.heap.size) (hs : ∀ i, i < B → S i) : Below B w w' := ⟨h.os, h.tape, h.output, h.size, fun i hi => h.block i (by omega) (hs i hi)⟩
theorem Same.ofBelow {B : Nat} (h : Below B w w') : Same (· < B) w w' := ⟨h.os, h.tape, h.output, h.size, fun i _ hi => h.block i hi⟩
theorem Same.ofGrown {row : Option Nat} (h : w.grownBy w' row) : Same (fun k => some k ≠ row) w w' := ⟨h.os, h.tape, h.output, h.size, fun i hi hs => h.block i hi hs⟩
theorem Same.drew (h : Same S w w') : Same S w w'.drew := ⟨h.os, h.tape, h.output, h.size, h.block⟩
theorem Same.drewN (h : Same S w w') (n : Nat) : Same S w (w'.drewN n) := ⟨h.os, h.tape, h.output, h.size, h.block⟩
theorem Same.alloc (h : Same S w w') (o : Obj) : Same S w (w'.alloc o) :=
 h.trans ⟨rfl, rfl, rfl, by simp, fun k hk _ => Below.heap_alloc _ _ _ hk⟩
theorem Same.setCell (h : Same S w w') {p : Addr} (hp : p.block < w.heap.size → ¬ S p.block) (u : Value) : Same S w (w'.setCell p u) :=
 ⟨h.os, h.tape, h.output, by have := h.size; simpa [World.setCell] using this, fun k hk hs => by
  rw [Below.heap_setCell _ _ _ _ (fun e => hp (e ▸ hk) (e ▸ hs))]; exact h.block k hk hs⟩
theorem Same.cell (h : Same S w w') {p : Addr} {v : Value} (hs : S p.block) (hc : w.cell? p = some v) : w'.cell? p = some v := by
 rw [World.cell?_of_block (w := w) (h.block p.block (World.block_lt_of_cell? w p hc) hs)]; exact hc
theorem Same.frozen (h : Same S w w') {p : Addr} (hp : p.block < w.heap.size) (hs : S p.block) : w'.frozen? p = w.frozen? p :=
 World.frozen?_of_block (w := w) (h.block p.block hp hs)
end
theorem block_of_add (a : Addr) (n : Nat) : (a.add n).block = a.block := by unfold Addr.add; split <;> rfl
theorem add_of_add (a : Addr) (i j : Nat) : (a.add i).add j = a.add (i + j) := by
 unfold Addr.add;by_cases hi : i = 0 <;> by_cases hj : j = 0 <;> simp [hi, hj, Nat.add_assoc]
/-- The slice '.slice A n c' holds the cells xs (size cells an element), in blocks of S. -/
def Sl (w : World) (S : Nat → Prop) (size : Nat) (A : Option Addr) (n : Nat) (xs : List Value) : Prop :=
 xs.length = n * size ∧ (0 < n → ∃ ad, A = some ad ∧ S ad.block ∧ ∀ j u, xs[j]? = some u → w.cell? (ad.add j) = some u)
section
variable {S S' : Nat → Prop} {w w' : World} {size n : Nat} {A : Option Addr} {xs : List Value}
theorem Sl.nil (w : World) (S : Nat → Prop) (size : Nat) (A : Option Addr) : Sl w S size A 0 [] := ⟨by simp, fun h => absurd h (by omega)⟩
theorem Sl.at_ {k : Nat} (h : Sl w S 1 A n xs) (hk : k < n) : ∃ ad u, A = some ad ∧ S ad.block ∧ xs[k]? = some u ∧ w.cell? (ad.add k) = some u := by
 obtain ⟨ad, e, hb, hc⟩ := h.2 (by omega);have hl : k < xs.length := by have := h.1; omega
 exact ⟨ad, xs[k], e, hb, List.getElem?_eq_getElem hl, hc k _ (List.getElem?_eq_getElem hl)⟩
theorem Sl.keep (h : Sl w S size A n xs) (hk : Same S w w') : Sl w' S size A n xs :=
 ⟨h.1, fun hn => by
  obtain ⟨ad, e, hb, hc⟩ := h.2 hn
  exact ⟨ad, e, hb, fun j u hu => hk.cell (by rw [block_of_add]; exact hb) (hc j u hu)⟩⟩
theorem Sl.mono (h : Sl w S size A n xs) (hs : ∀ k, k < w.heap.size → S k → S' k) (hz : 0 < size := by omega) : Sl w S' size A n xs :=
 ⟨h.1, fun hn => by
  obtain ⟨ad, e, hb, hc⟩ := h.2 hn;have hl : 0 < xs.length := by rw [h.1]; exact Nat.mul_pos hn hz
  have := World.block_lt_of_cell? w (ad.add 0) (hc 0 _ (List.getElem?_eq_getElem hl))
  exact ⟨ad, e, hs _ (by rw [block_of_add] at this; exact this) hb, hc⟩⟩
theorem Sl.take (h : Sl w S size A n xs) {k : Nat} (hk : k ≤ n) : Sl w S size A k (xs.take (k * size)) := by
 refine ⟨by rw [List.length_take, h.1, Nat.min_eq_left (Nat.mul_le_mul_right _ hk)], fun hn => ?_⟩;obtain ⟨ad, e, hb, hcell⟩ := h.2 (by omega);exact ⟨ad, e, hb, fun j u hu => hcell j u (by rw [List.getElem?_take] at hu; split at hu <;> simp_all)⟩
theorem Sl.of_own {base : Nat} {e : TypeId} {c : Nat} (h : w.ownsRow base e size (.slice A n c) n xs) : Sl w (fun k => some k = (Value.slice A n c).ownBlock) size A n xs := by
 refine ⟨h.1, fun hn => ?_⟩;obtain ⟨g, cap, hv, _, hlt⟩ := h.form hn;have hA : A = some ⟨g, 0, none⟩ := by injection hv
 subst hA;exact ⟨_, rfl, rfl, h.cells (g := g) rfl⟩
end
abbrev cs8 (bs : List UInt8) : List Value := bs.map V8
/-- The slice value v reads as the bytes bs, in blocks of S. -/
def By (w : World) (S : Nat → Prop) (v : Value) (bs : List UInt8) : Prop :=
 ∃ A c, v = .slice A bs.length c ∧ bs.length ≤ c ∧ c ≤ maxLen ∧ Sl w S 1 A bs.length (cs8 bs)
section
variable {S S' : Nat → Prop} {w w' : World} {v : Value} {bs : List UInt8}
theorem By.keep (h : By w S v bs) (hk : Same S w w') : By w' S v bs := by
 obtain ⟨A, c, rfl, hc, hm, hs⟩ := h;exact ⟨A, c, rfl, hc, hm, hs.keep hk⟩
theorem By.mono (h : By w S v bs) (hs : ∀ k, k < w.heap.size → S k → S' k) : By w S' v bs := by
 obtain ⟨A, c, rfl, hc, hm, h2⟩ := h;exact ⟨A, c, rfl, hc, hm, h2.mono hs⟩
theorem By.keepAll (h : By w S v bs) (hk : Same (fun _ => True) w w') : By w' S v bs := h.keep (hk.mono fun _ _ _ => trivial)
end
/-- The cells vs read as a list of byte slices. -/
def ByL (w : World) (S : Nat → Prop) (v : Value) (l : List (List UInt8)) : Prop :=
 ∃ A c vs, v = .slice A l.length c ∧ l.length ≤ c ∧ c ≤ maxLen ∧ Sl w S 1 A l.length vs ∧ ∀ (i : Nat) (u : Value) (x : List UInt8), vs[i]? = some u → l[i]? = some x → By w S u x
section
variable {S S' : Nat → Prop} {w w' : World} {v : Value} {l : List (List UInt8)}
theorem ByL.keep (h : ByL w S v l) (hk : Same S w w') : ByL w' S v l := by
 obtain ⟨A, c, vs, rfl, hc, hm, hs, he⟩ := h;exact ⟨A, c, vs, rfl, hc, hm, hs.keep hk, fun i u x hu hx => (he i u x hu hx).keep hk⟩
theorem ByL.mono (h : ByL w S v l) (hs : ∀ k, k < w.heap.size → S k → S' k) : ByL w S' v l := by
 obtain ⟨A, c, vs, rfl, hc, hm, h2, he⟩ := h;exact ⟨A, c, vs, rfl, hc, hm, h2.mono hs, fun i u x hu hx => (he i u x hu hx).mono hs⟩
theorem ByL.keepAll (h : ByL w S v l) (hk : Same (fun _ => True) w w') : ByL w' S v l := h.keep (hk.mono fun _ _ _ => trivial)
end
theorem heap_now {w : World} {o : Obj} {k : Nat} (h : k = w.heap.size) : (w.alloc o).heap[k]? = some o := by subst h; exact heap_alloc_new w o
def Row (w : World) (g : Nat) (e : TypeId) (xs : List Value) : Prop := w.heap[g]? = some (.cells xs.toArray e (0, 0))
section
variable {S : Nat → Prop} {w w' : World} {g : Nat} {e : TypeId} {xs : List Value}
theorem Row.lt (h : Row w g e xs) : g < w.heap.size := by
 rcases Nat.lt_or_ge g w.heap.size with hlt | hge
 ·exact hlt
 ·unfold Row at h; rw [Array.getElem?_eq_none hge] at h; cases h
theorem Row.cell (h : Row w g e xs) (i : Nat) : w.cell? ⟨g, i, none⟩ = xs[i]? := by
 rw [cell_of_row w g i _ e (0, 0) h]; simp
theorem Row.frozen (h : Row w g e xs) (i : Nat) : w.frozen? ⟨g, i, none⟩ = false := by
 unfold Row at h;simp [World.frozen?, h]
theorem Row.new (w : World) (e : TypeId) (xs : List Value) : Row (w.alloc (.cells xs.toArray e)) w.heap.size e xs := heap_alloc_new w _
theorem Row.keep (h : Row w g e xs) (hk : Same S w w') (hs : S g) : Row w' g e xs := (hk.block g h.lt hs).trans h
theorem Row.set_ (h : Row w g e xs) (i : Nat) (u : Value) : Row (w.setCell ⟨g, i, none⟩ u) g e (xs.set i u) := by
 unfold Row at h ⊢;simp [World.setCell, Array.getElem?_modify, h]
theorem Row.ne {g' : Nat} {e' : TypeId} {xs' : List Value} (h : Row w g e xs) (h' : Row w g' e' xs') (hne : e ≠ e') : g ≠ g' := by
 rintro rfl;unfold Row at h h';rw [h] at h';injection h' with h';injection h' with _ ht;exact hne ht
theorem Row.sl (h : Row w g e xs) {size off n : Nat} (hn : off + n * size ≤ xs.length) : Sl w (fun k => k = g) size (some ⟨g, off, none⟩) n ((xs.drop off).take (n * size)) := by
 refine ⟨by simp; omega, fun _ => ⟨_, rfl, rfl, fun j u hu => ?_⟩⟩;have e0 : (⟨g, off, none⟩ : Addr).add j = ⟨g, off + j, none⟩ := by unfold Addr.add; split <;> simp_all
 rw [e0, h.cell];rw [List.getElem?_take] at hu;split at hu
 ·simpa using hu
 ·simp at hu
end
theorem ownsRow_row {w : World} {base : Nat} {e : TypeId} {size : Nat} {v : Value} {n : Nat} {xs : List Value} (h : w.ownsRow base e size v n xs) :
  (v = .slice none 0 0 ∧ n = 0 ∧ xs = []) ∨ ∃ g cap cur, v = .slice (some ⟨g, 0, none⟩) n cap ∧ base ≤ g ∧ Row w g e cur ∧ n ≤ cap ∧ cap ≤ maxLen ∧ cur.length = cap * size ∧ cur.take (n * size) = xs := by
 rcases h.2 with ⟨h1, h2⟩ | ⟨g, cap, cur, h1, h2, h3, h4, h5, h6, h7⟩
 ·refine .inl ⟨h1, h2, ?_⟩;apply List.eq_nil_of_length_eq_zero; rw [h.1, h2]; simp
 ·exact .inr ⟨g, cap, cur.toList, h1, h2, by simpa [Row] using h3, h4, h5, by simpa using h6, h7⟩
theorem own_keep {S : Nat → Prop} {w w' : World} {base : Nat} {e : TypeId} {size : Nat} {v : Value} {n : Nat} {xs : List Value} (h : w.ownsRow base e size v n xs) (hk : Same S w w') (hs : ∀ k, v.ownBlock = some k → S k) :
  w'.ownsRow base e size v n xs := by
 refine ⟨h.1, ?_⟩;rcases h.2 with hn | ⟨g, cap, cur, rfl, hb, hgg, rest⟩
 ·exact .inl hn
 ·refine .inr ⟨g, cap, cur, rfl, hb, ?_, rest⟩;rw [hk.block g (Array.getElem?_eq_some_iff.1 hgg).1 (hs g rfl)];exact hgg
theorem own_keepAll {w w' : World} {base : Nat} {e : TypeId} {size : Nat} {v : Value} {n : Nat} {xs : List Value} (h : w.ownsRow base e size v n xs) (hk : Same (fun _ => True) w w') :
  w'.ownsRow base e size v n xs := own_keep h hk fun _ _ => trivial
structure SlT (P : Program) (t e : TypeId) (size bytes : Nat) (z : Value) : Prop where
 und : P.underlying t = some (.slice e)
 info : (P.info? e).map (fun i => (i.zero, i.size, i.bytes)) = some (some z, size, bytes)
 zs : z.cells.size = size
 pos : 0 < size
section
variable {P : Program} {t e : TypeId} {size bytes : Nat} {z : Value}
theorem wpList_app (T : SlT P t e size bytes z) (w : World) {ops : Array Oper} {rest : List Oper} {o : Oper} {a : Act} {Q : Exit → Act → World → Prop} (hgd : o.guard = none) (s x : Operand)
  (ho : o.op = .call { callee := .builtin .append, args := #[s, x], argTypes := #[t, t] })
  (base : Nat) (v : Value) (n : Nat) (xs : List Value) (hs : a.eval s = v) (hown : w.ownsRow base e size v n xs)
  (S : Nat → Prop) (A : Option Addr) (m c : Nat) (news : List Value) (hx : a.eval x = .slice A m c) (hr : Sl w S size A m news) (h1 : ∀ u ∈ news, u.oneCell' = true)
  (h63 : n + m ≤ maxLen) (hbytes : (n + m) * bytes ≤ 140737488355328) (hbase : base ≤ w.heap.size)
  (h : ∀ v' w', w'.ownsRow base e size v' (n + m) (xs ++ news) → Same (fun k => some k ≠ v.ownBlock) w w' → (v'.ownBlock = v.ownBlock ∨ v'.ownBlock = some w.heap.size) → wpList P ops Q rest (a.put o.dst v') w') : wpList P ops Q (o :: rest) a w := by
 obtain ⟨i, hi, hz, h4, h5⟩ := info_parts T.info
 have key : ∃ v' w', (Builtin.append_ #[t, t] o.type #[v, .slice A m c]).run P w = .ok v' w' ∧ w'.ownsRow base e size v' (n + m) (xs ++ news) ∧ w.grownBy w' v.ownBlock ∧
   (v'.ownBlock = v.ownBlock ∨ v'.ownBlock = some w.heap.size) := by
  rcases A with _ | ad
  ·have hm : m = 0 := by
    rcases Nat.eq_zero_or_pos m with h0 | h0
    ·exact h0
    ·obtain ⟨ad, h, _⟩ := hr.2 h0;cases h
   subst hm;have hn : news = [] := List.eq_nil_of_length_eq_zero (by simpa using hr.1);subst hn;refine ⟨v, w, ?_, by simpa using hown, World.grownBy.refl w _, .inl rfl⟩;rcases hown.2 with ⟨rfl, rfl⟩ | ⟨g, cap, cur, rfl, _, _, hnc, _⟩
   ·simp [Builtin.append_, run_underlying T.und, sizeOf, typeInfo, hi, Builtin.lenOf, Builtin.firstCells]
   ·simp [Builtin.append_, run_underlying T.und, sizeOf, typeInfo, hi, Builtin.lenOf, Builtin.firstCells, hnc, storeCells]
  ·have hcells : ∀ j u, news[j]? = some u → w.cell? (ad.add j) = some u := by
    intro j u hu;rcases Nat.eq_zero_or_pos m with h0 | h0
    ·subst h0;have hn : news = [] := List.eq_nil_of_length_eq_zero (by simpa using hr.1);subst hn;simp at hu
    ·obtain ⟨ad', h, _, hc⟩ := hr.2 h0;injection h with h;subst h;exact hc j u hu
   obtain ⟨v', w', hrun, h2, h3, _, h5⟩ := run_append_own_at (P := P) w base t o.type e i z size bytes T.und hi hz h4 h5 T.zs T.pos v n xs hown ad m c news hr.1 hcells h1 h63 hbytes hbase;exact ⟨v', w', hrun, h2, h3, h5⟩
 obtain ⟨v', w', hrun, h2, h3, h4⟩ := key;refine wpList_plain hgd fun K hK => ?_
 unfold Oper.wp execOp;simp only [ho, resolve, invoke, builtin, Sem.run_bind, Sem.run_pure, Result.andThen_ok, List.map_toArray, List.map_cons, List.map_nil, hs, hx, hrun];exact hK _ _ (h v' w' h2 (Same.ofGrown h3) h4)
end
theorem oneCell8 (bs : List UInt8) : ∀ u ∈ cs8 bs, u.oneCell' = true := by
 intro u hu;simp only [cs8, List.mem_map] at hu;obtain ⟨b, _, rfl⟩ := hu;rfl
/-- The string of these bytes. -/
def str (bs : List UInt8) : ByteArray := ⟨bs.toArray⟩
theorem str_size (bs : List UInt8) : (str bs).size = bs.length := by simp [str, ByteArray.size]
theorem str_get (s : ByteArray) : s = str s.data.toList := by simp [str]
theorem conv_str {P : Program} {w : World} {S : Nat → Prop} {A : Option Addr} {bs : List UInt8} (c : Nat) (src dst e : TypeId)
  (hs : P.underlying src = some (.slice e)) (he : P.underlying e = some (.int .u8)) (hd : P.underlying dst = some .string) (h : Sl w S 1 A bs.length (cs8 bs)) :
  (convert src dst (.slice A bs.length c)).run P w = .ok (.string (str bs)) w := by
 rw [run_convert_bytes_string w src dst e A _ c hs he hd];rcases A with _ | ad
 ·have hb : bs = [] := by
   cases bs with
   | nil => rfl
   | cons b bs => obtain ⟨ad, h, _⟩ := h.2 (by simp); cases h
  subst hb;rfl
 ·have hc : ∀ j u, (cs8 bs)[j]? = some u → w.cell? (ad.add j) = some u := by
   intro j u hu;cases hb : bs with
   | nil => subst hb; simp [cs8] at hu
   | cons b bs' =>
    obtain ⟨ad', h1, _, h2⟩ := h.2 (by rw [hb]; simp);injection h1 with h1;subst h1;exact h2 j u hu
  have hl := run_loadCells_list (P := P) w ad (cs8 bs) hc;have e1 : cs8 bs = (bs.map n8).map (Value.int .u8) := by simp [cs8]
  rw [show (cs8 bs).length = bs.length from by simp [cs8], e1] at hl;rw [run_bytesToString w ad bs.length c (bs.map n8) hl, foldl_push_bytes]
  have e2 : (bs.map n8).map (fun n => UInt8.ofNat n.toNat) = bs := by
   rw [List.map_map]
   conv => rhs; rw [← List.map_id bs]
   apply List.map_congr_left;intro b _;simp [n8]
  rw [e2];simp [str]
section
variable {H : Type} {enc : TypeId × Value → H} {P : Program} {W : World}
theorem i64_of_wf {n : Int} (h : (Lit.int .i64 n).wf = true) : -9223372036854775808 ≤ n ∧ n ≤ 9223372036854775807 := by
 simp [Lit.wf, IntKind.min, IntKind.max, IntKind.signed, IntKind.bits] at h;omega
end
theorem trodAll_below {H : Type} {enc : TypeId × Value → H} {P : Program} (hl : laidOutB P = true) {W W' : World} (hb : Below W.heap.size W W') :
  ∀ (ts : List TypeId) (vs : List Value) (ds : List (DataW H)) (ps : List MemPlace), (∀ t ∈ ts, P.readableRec t = true ∧ t < P.types.size) →
   DataW.TrodAll enc P W 0 (fun _ => true) true ts vs ds ps → DataW.TrodAll enc P W' 0 (fun b => decide (b < W.heap.size)) true ts vs ds ps
 | [], [], [], _, _, h => h
 | t :: ts, v :: vs, d :: ds, _, hr, ⟨p, q, h0, h1, e⟩ =>
  ⟨p, q, Below.trod hl (hr t (by simp)).1 (hr t (by simp)).2 h0 hb (by obtain ⟨m, hm⟩ := h0; exact DataW.trod_lt m _ _ _ hm), trodAll_below hl hb ts vs ds q (fun t ht => hr t (by simp [ht])) h1, e⟩
 | [], [], _ :: _, _, _, h => h.elim
 | [], _ :: _, _, _, _, h => h.elim
 | _ :: _, [], _, _, _, h => h.elim
 | _ :: _, _ :: _, [], _, _, h => h.elim
theorem trodAll_length {H : Type} {enc : TypeId × Value → H} {P : Program} {W : World} {base : Nat} {sp : Nat → Bool} {held : Bool} :
  ∀ (ts : List TypeId) (vs : List Value) (ds : List (DataW H)) (ps : List MemPlace), DataW.TrodAll enc P W base sp held ts vs ds ps → ts.length = vs.length ∧ ts.length = ds.length
 | [], [], [], _, _ => ⟨rfl, rfl⟩
 | _ :: ts, _ :: vs, _ :: ds, _, ⟨_, q, _, h1, _⟩ => by
  obtain ⟨a, b⟩ := trodAll_length ts vs ds q h1;simp [a.symm, b.symm]
 | [], [], _ :: _, _, h => h.elim
 | [], _ :: _, _, _, h => h.elim
 | _ :: _, [], _, _, h => h.elim
 | _ :: _, _ :: _, [], _, h => h.elim
end Go.Proofs.YtdfojghhpdkpfaaGreatDoor
namespace Go.Proofs.YtdfojghhpdkpfaaGreatDoor
/-- Does o wait for operation j? -/
def waits (o : Oper) (j : Nat) : Bool := o.after.toList.any fun e => e.on == j && Region.binds .any e
/-- The slot of operation j. -/
def slotOf (ops : Array Oper) (j : Nat) : Nat := ((ops[j]?).bind (·.dst)).getD 0
/-- Whoever writes slot d waits for operation i. -/
def freeAt (ops : Array Oper) (i d : Nat) : Bool := ops.toList.all fun o => !(o.dst == some d) || waits o i
/-- Each edge leads back; each operation has a slot of its own. -/
def plainB (ops : Array Oper) : Bool :=
 (List.range ops.size).all fun i => ((ops[i]?).map fun o => o.after.all (fun e => decide (e.on < i) || !Region.binds .any e) && o.dst.isSome && (List.range i).all fun j => slotOf ops j != slotOf ops i).getD false
structure RegInv (ops : Array Oper) (φ : Nat → Value → World → Prop) (a0 : Act) (w0 : World) (listed : Array Bool) (a : Act) (w : World) : Prop where
 defers : a.defers = a0.defers
 size : a.tmps.size = a0.tmps.size
 same : Same (fun _ => True) w0 w
 kept : ∀ d, (∀ j o, ops[j]? = some o → listed.getD j true = true → o.dst ≠ some d) → a.tmps[d]? = a0.tmps[d]?
 done : ∀ j, j < ops.size → listed.getD j true = true → φ j (a.tmps.getD (slotOf ops j) undef) w
 down : ∀ j o e, ops[j]? = some o → listed.getD j true = true → e ∈ o.after → Region.binds .any e = true → listed.getD e.on true = true
theorem getD_put (a : Act) (d k : Nat) (v : Value) (h : d < a.tmps.size) : (a.put (some d) v).tmps.getD k undef = if d = k then v else a.tmps.getD k undef := by
 simp only [Act.put, Array.getD_eq_getD_getElem?, Array.getElem?_setIfInBounds];split
 ·rename_i e; subst e; simp [h]
 ·rfl
theorem getD_two {l : Array Bool} {j : Nat} (h : l.getD j false = true) : l.getD j true = true := by
 simp only [Array.getD_eq_getD_getElem?] at h ⊢;cases hj : l[j]? with
 | none => rw [hj] at h; cases h
 | some b => rw [hj] at h; exact h
theorem getD_one {l : Array Bool} {j : Nat} (hj : j < l.size) (h : l.getD j true = true) : l.getD j false = true := by
 simp only [Array.getD_eq_getD_getElem?, Array.getElem?_eq_getElem hj, Option.getD_some] at h ⊢;exact h
theorem count_less {n i fuel : Nat} {p p' : Nat → Bool} (hi : i < n) (hpi : p i = true) (hp' : ∀ j, p' j = (p j && j != i)) (h : ((List.range n).filter p).length = fuel + 1) : ((List.range n).filter p').length = fuel := by
 have e : (List.range n).filter p' = ((List.range n).filter p).erase i := by
  rw [List.Nodup.erase_eq_filter (List.Pairwise.filter _ List.nodup_range), List.filter_filter];apply List.filter_congr;intro j _;rw [hp' j, Bool.and_comm]
 rw [e, List.length_erase_of_mem (List.mem_filter.2 ⟨List.mem_range.2 hi, hpi⟩), h];rfl
section
variable {P : Program} {ops : Array Oper} {φ : Nat → Value → World → Prop} {a0 : Act} {w0 : World} {Q : Exit → Act → World → Prop}
theorem slot_of {i : Nat} {o : Oper} {d : Nat} (ho : ops[i]? = some o) (hd : o.dst = some d) : slotOf ops i = d := by simp [slotOf, ho, hd]
theorem plain_at (hp : plainB ops = true) {i : Nat} {o : Oper} (ho : ops[i]? = some o) :
  (∀ e ∈ o.after, Region.binds .any e = true → e.on < i) ∧ (∃ d, o.dst = some d) ∧ ∀ j, j < i → slotOf ops j ≠ slotOf ops i := by
 have hi : i < ops.size := (Array.getElem?_eq_some_iff.1 ho).1;have h := List.all_eq_true.1 hp i (List.mem_range.2 hi);rw [ho] at h;simp only [Option.map_some, Option.getD_some, Bool.and_eq_true, Array.all_eq_true_iff_forall_mem, decide_eq_true_eq, List.all_eq_true, List.mem_range, bne_iff_ne, ne_eq] at h;obtain ⟨⟨h1, h2⟩, h3⟩ := h;refine ⟨fun e he hb => ?_, Option.isSome_iff_exists.1 h2, h3⟩;have := h1 e he;simpa [hb] using this
/-- One more operation is done. -/
theorem RegInv.step (hp : plainB ops = true) (hstab : ∀ i v w w', φ i v w → Same (fun _ => True) w w' → φ i v w') (hsz : ∀ (i : Nat) (o : Oper) (d : Nat), ops[i]? = some o → o.dst = some d → d < a0.tmps.size)
  {listed : Array Bool} {a : Act} {w w' : World} {i : Nat} {o : Oper} {v : Value} (hl : listed.size = ops.size) (ho : ops[i]? = some o) (hni : listed.getD i true = false) (hr : ∀ e ∈ o.after, Region.binds .any e = true → listed.getD e.on true = true)
  (h : RegInv ops φ a0 w0 listed a w) (hs : Same (fun _ => True) w w') (hv : φ i v w') : RegInv ops φ a0 w0 (listed.setIfInBounds i true) (a.put o.dst v) w' := by
 have hi : i < ops.size := (Array.getElem?_eq_some_iff.1 ho).1;obtain ⟨hback, ⟨d, hd⟩, hdist⟩ := plain_at hp ho;have hdl : d < a.tmps.size := by rw [h.size]; exact hsz i o d ho hd
 have hset : ∀ j, (listed.setIfInBounds i true).getD j true = if i = j then true else listed.getD j true := by
  intro j;simp only [Array.getD_eq_getD_getElem?, Array.getElem?_setIfInBounds];split
  ·rename_i e; subst e; simp [hl, hi]
  ·rfl
 have hne : ∀ j, j < ops.size → j ≠ i → slotOf ops j ≠ d := by
  intro j hj hji e;obtain ⟨oj, hoj⟩ : ∃ oj, ops[j]? = some oj := ⟨_, Array.getElem?_eq_getElem hj⟩;have hsi := slot_of ho hd;rcases Nat.lt_or_gt_of_ne hji with hlt | hgt
  ·exact hdist j hlt (by rw [hsi]; exact e)
  ·exact (plain_at hp hoj).2.2 i hgt (by rw [hsi]; exact e.symm)
 refine ⟨by rw [hd]; exact h.defers, by rw [hd]; simp [Act.put]; exact h.size, h.same.trans hs, ?_, ?_, ?_⟩
 ·intro k hk
  have hkd : d ≠ k := by
   intro e;exact hk i o ho (by rw [hset, if_pos rfl]) (by rw [hd, e])
  have : (a.put o.dst v).tmps[k]? = a.tmps[k]? := by
   rw [hd];simp only [Act.put, Array.getElem?_setIfInBounds, if_neg hkd]
  rw [this];refine h.kept k fun j oj hoj hlj => hk j oj hoj ?_
  rw [hset]; split
  ·rfl
  ·exact hlj
 ·intro j hj hlj;rw [hset] at hlj;rw [hd, getD_put _ _ _ _ hdl];by_cases hij : i = j
  ·subst hij;rw [if_pos (slot_of ho hd).symm];exact hv
  ·rw [if_neg hij] at hlj;rw [if_neg (fun e => hne j hj (fun e' => hij e'.symm) e.symm)];exact hstab _ _ _ _ (h.done j hj hlj) hs
 ·intro j oj e hoj hlj he hb;rw [hset] at hlj ⊢;split
  ·rfl
  ·by_cases hij : i = j
   ·subst hij;rw [ho] at hoj;injection hoj with hoj;subst hoj;exact hr e he hb
   ·rw [if_neg hij] at hlj;exact h.down j oj e hoj hlj he hb
/-- What an operation is shown to do: it leaves a value that its predicate tells, and a world that keeps all. -/
def OpDoes (P : Program) (ops : Array Oper) (φ : Nat → Value → World → Prop) (a0 : Act) (w0 : World) (Q : Exit → Act → World → Prop) (i : Nat) (o : Oper) : Prop :=
 ∀ (a : Act) (w : World), Same (fun _ => True) w0 w → a.defers = a0.defers → a.tmps.size = a0.tmps.size →
  (∀ d, freeAt ops i d = true → a.tmps.getD d undef = a0.tmps.getD d undef) →
  (∀ j, waits o j = true → φ j (a.tmps.getD (slotOf ops j) undef) w) →
  ∀ K : Act → World → Prop, (∀ v w', φ i v w' → Same (fun _ => True) w w' → K (a.put o.dst v) w') →
   if Region.wanted o (yielded ops a.tmps) = true then Oper.wp P o a w K Q else K (a.put o.dst undef) w
theorem wpAny_rel (hp : plainB ops = true) (hstab : ∀ i v w w', φ i v w → Same (fun _ => True) w w' → φ i v w') (hsz : ∀ (i : Nat) (o : Oper) (d : Nat), ops[i]? = some o → o.dst = some d → d < a0.tmps.size)
  (hstep : ∀ i o, ops[i]? = some o → OpDoes P ops φ a0 w0 Q i o)
  (hend : ∀ a w, Same (fun _ => True) w0 w → a.defers = a0.defers → a.tmps.size = a0.tmps.size → (∀ d, (∀ j, j < ops.size → slotOf ops j ≠ d) → a.tmps.getD d undef = a0.tmps.getD d undef) →
   (∀ j, j < ops.size → φ j (a.tmps.getD (slotOf ops j) undef) w) → Q .normal a w) :
  ∀ (fuel : Nat) (listed : Array Bool) (a : Act) (w : World), listed.size = ops.size → ((List.range ops.size).filter fun i => !listed.getD i true).length = fuel →
   RegInv ops φ a0 w0 listed a w → wpAny P .any ops Q fuel listed a w := by
 have ready_nil : ∀ listed : Array Bool, listed.size = ops.size → Region.ready .any ops listed = [] → ∀ i, i < ops.size → listed.getD i true = true := by
  intro listed hlz hr i
  induction i using Nat.strongRecOn with
  | _ i ih =>
   intro hi;cases hli : listed.getD i true with
   | true => rfl
   | false =>
    exfalso;obtain ⟨o, ho⟩ : ∃ o, ops[i]? = some o := ⟨_, Array.getElem?_eq_getElem hi⟩
    have : i ∈ Region.ready .any ops listed := by
     unfold Region.ready;rw [List.mem_filter];refine ⟨List.mem_range.2 hi, ?_⟩;rw [ho, hli];simp only [Bool.not_false, Bool.true_and, Option.map_some, Option.getD_some, Array.all_eq_true_iff_forall_mem];intro e he;by_cases hb : Region.binds .any e = true
     ·have hlt := (plain_at hp ho).1 e he hb
      have hz : listed.getD e.on false = true := by
       exact getD_one (by omega) (ih e.on hlt (by omega))
      rw [hz]; simp
     ·simp [hb]
    rw [hr] at this;cases this
 have fin : ∀ (listed : Array Bool) (a : Act) (w : World), listed.size = ops.size → Region.ready .any ops listed = [] → RegInv ops φ a0 w0 listed a w → Q .normal a w := by
  intro listed a w hlz hr h;have hall := ready_nil listed hlz hr;refine hend a w h.same h.defers h.size (fun d hd => ?_) (fun j hj => h.done j hj (hall j hj));have := h.kept d fun j o ho _ e => hd j (Array.getElem?_eq_some_iff.1 ho).1 (slot_of ho e)
  simp [Array.getD_eq_getD_getElem?, this]
 intro fuel
 induction fuel with
 | zero =>
  intro listed a w hl hc h
  have hr : Region.ready .any ops listed = [] := by
   unfold Region.ready;rw [List.filter_eq_nil_iff];intro i hi hh;have hf := List.eq_nil_of_length_eq_zero hc;rw [List.filter_eq_nil_iff] at hf;have := hf i hi;simp only [Bool.and_eq_true] at hh;exact this hh.1
  exact ⟨hr, fin listed a w hl hr h⟩
 | succ fuel ih =>
  intro listed a w hl hc h;refine ⟨fun hr => fin listed a w hl hr h, fun i hi => ?_⟩;unfold Region.ready at hi;rw [List.mem_filter] at hi;obtain ⟨hi, hrd⟩ := hi;have hi := List.mem_range.1 hi;obtain ⟨o, ho⟩ : ∃ o, ops[i]? = some o := ⟨_, Array.getElem?_eq_getElem hi⟩;rw [ho] at hrd;simp only [Bool.and_eq_true, Bool.not_eq_true', Option.map_some, Option.getD_some, Array.all_eq_true_iff_forall_mem] at hrd;obtain ⟨hni, hrd⟩ := hrd
  have hrr : ∀ e ∈ o.after, Region.binds .any e = true → listed.getD e.on true = true := by
   intro e he hb;have := hrd e he;rw [hb] at this;exact getD_two (by simpa using this)
  refine wpOp_step ho fun K hK => ?_
  refine hstep i o ho a w h.same h.defers h.size (fun d hd => ?_) (fun j hj => ?_) K (fun v w' hv hs => hK _ _ ?_)
  ·have : a.tmps[d]? = a0.tmps[d]? := by
    refine h.kept d fun j oj hoj hlj e => ?_
    have hm : oj ∈ ops.toList := by
     rw [Array.mem_toList_iff];exact Array.mem_of_getElem? hoj
    have := List.all_eq_true.1 hd oj hm;simp only [e, beq_self_eq_true, Bool.not_true, Bool.false_or, waits, List.any_eq_true, Bool.and_eq_true, beq_iff_eq, Array.mem_toList_iff] at this;obtain ⟨ed, h1, h2, h3⟩ := this;have := h.down j oj ed hoj hlj h1 h3;rw [h2, hni] at this;cases this
   simp [Array.getD_eq_getD_getElem?, this]
  ·simp only [waits, List.any_eq_true, Bool.and_eq_true, beq_iff_eq, Array.mem_toList_iff] at hj;obtain ⟨e, he, h2, h3⟩ := hj;have hlt := (plain_at hp ho).1 e he h3;exact h.done j (by omega) (by rw [← h2]; exact hrr e he h3)
  ·refine ih _ _ _ (by simpa using hl) ?_ (RegInv.step hp hstab hsz hl ho hni hrr h hs hv);refine count_less (i := i) (p := fun i => !listed.getD i true) hi (by rw [hni]; rfl) (fun j => ?_) hc;simp only [Array.getD_eq_getD_getElem?, Array.getElem?_setIfInBounds];by_cases hij : i = j
   ·subst hij;have : i < listed.size := by omega
    simp [this]
   ·rw [if_neg hij];have : (j != i) = true := by simpa using fun e : j = i => hij e.symm
    rw [this, Bool.and_true]
theorem wp_region_rel {id : Nat} (hm : P.follows .mixedOrders = true) (hp : plainB ops = true) (hstab : ∀ i v w w', φ i v w → Same (fun _ => True) w w' → φ i v w') (hsz : (ops.toList.all fun o => (o.dst.map fun d => decide (d < a0.tmps.size)).getD true) = true)
  (hstep : ∀ i o, ops[i]? = some o → OpDoes P ops φ a0 w0 Q i o)
  (hend : ∀ a w, Same (fun _ => True) w0 w → a.defers = a0.defers → a.tmps.size = a0.tmps.size → (∀ d, (∀ j, j < ops.size → slotOf ops j ≠ d) → a.tmps.getD d undef = a0.tmps.getD d undef) →
   (∀ j, j < ops.size → φ j (a.tmps.getD (slotOf ops j) undef) w) → Q .normal a w) : (Code.region id ops true).wp P Q a0 w0 := by
 refine wp_region_any hm (wpAny_rel hp hstab (fun i o d ho hd => ?_) hstep hend ops.size _ a0 _ (by simp) ?_ ?_)
 ·have hmem : o ∈ ops.toList := by rw [Array.mem_toList_iff]; exact Array.mem_of_getElem? ho
  have := List.all_eq_true.1 hsz o hmem;rw [hd] at this;simpa using this
 ·have : ((List.range ops.size).filter fun i => !(Array.replicate ops.size false).getD i true) = List.range ops.size := by
   rw [List.filter_eq_self];intro i hi;have := List.mem_range.1 hi;simp [Array.getD_eq_getD_getElem?, this]
  rw [this, List.length_range]
 ·refine ⟨rfl, rfl, (Same.refl _ _).drew, fun _ _ => rfl, fun j hj h => ?_, fun j o e ho h => ?_⟩
  ·simp [Array.getD_eq_getD_getElem?, hj] at h
  ·have hj := (Array.getElem?_eq_some_iff.1 ho).1;simp [Array.getD_eq_getD_getElem?, hj] at h
end
/-- A predicate on a value that later worlds keep. -/
structure SP where
 p : Value → World → Prop
 st : ∀ v w w', p v w → Same (fun _ => True) w w' → p v w'
def SP.any : SP := ⟨fun _ _ => True, fun _ _ _ _ _ => trivial⟩
def SP.eq (u : Value) : SP := ⟨fun v _ => v = u, fun _ _ _ h _ => h⟩
def SP.by (S : Nat → Prop) (bs : List UInt8) : SP := ⟨fun v w => By w S v bs, fun _ _ _ h k => h.keepAll k⟩
def phi (L : List SP) (i : Nat) (v : Value) (w : World) : Prop := (L.getD i SP.any).p v w
theorem phi_st (L : List SP) : ∀ i v w w', phi L i v w → Same (fun _ => True) w w' → phi L i v w' := fun i v w w' h k => (L.getD i SP.any).st v w w' h k
/-- Each of the operations, one by one. -/
def OpsDo (P : Program) (ops : Array Oper) (φ : Nat → Value → World → Prop) (a0 : Act) (w0 : World) (Q : Exit → Act → World → Prop) : Nat → List Oper → Prop
 | _, [] => True
 | k, o :: l => OpDoes P ops φ a0 w0 Q k o ∧ OpsDo P ops φ a0 w0 Q (k + 1) l
theorem OpsDo.nil {P : Program} {ops : Array Oper} {φ : Nat → Value → World → Prop} {a0 : Act} {w0 : World} {Q : Exit → Act → World → Prop} {k : Nat} : OpsDo P ops φ a0 w0 Q k [] := trivial
theorem OpsDo.cons {P : Program} {ops : Array Oper} {φ : Nat → Value → World → Prop} {a0 : Act} {w0 : World} {Q : Exit → Act → World → Prop} {k : Nat} {o : Oper} {l : List Oper} (h : OpDoes P ops φ a0 w0 Q k o) (h' : OpsDo P ops φ a0 w0 Q (k + 1) l) : OpsDo P ops φ a0 w0 Q k (o :: l) := ⟨h, h'⟩
theorem OpsDo.at_ {P : Program} {ops : Array Oper} {φ : Nat → Value → World → Prop} {a0 : Act} {w0 : World} {Q : Exit → Act → World → Prop} : ∀ (l : List Oper) (k : Nat), OpsDo P ops φ a0 w0 Q k l → ∀ i o, l[i]? = some o → OpDoes P ops φ a0 w0 Q (k + i) o
 | [], _, _, i, o, h => by simp at h
 | o' :: l, k, h, 0, o, ho => by simp at ho; subst ho; exact h.1
 | o' :: l, k, h, i + 1, o, ho => by
  have := OpsDo.at_ l (k + 1) h.2 i o (by simpa using ho);rwa [show k + (i + 1) = k + 1 + i from by omega]
/-- The same law, the operations written out. -/
theorem wp_region_rel_lit {P : Program} {l : List Oper} {L : List SP} {a0 : Act} {w0 : World} {Q : Exit → Act → World → Prop} {id : Nat} (hm : P.follows .mixedOrders = true) (hp : plainB l.toArray = true)
  (hsz : (l.all fun o => (o.dst.map fun d => decide (d < a0.tmps.size)).getD true) = true)
  (hstep : OpsDo P l.toArray (phi L) a0 w0 Q 0 l)
  (hend : ∀ a w, Same (fun _ => True) w0 w → a.defers = a0.defers → a.tmps.size = a0.tmps.size → (∀ d, (l.all fun o => o.dst != some d) = true → a.tmps.getD d undef = a0.tmps.getD d undef) →
   (∀ j, j < l.length → phi L j (a.tmps.getD (slotOf l.toArray j) undef) w) → Q .normal a w) : (Code.region id l.toArray true).wp P Q a0 w0 := by
 refine wp_region_rel (φ := phi L) hm hp (phi_st L) (by simpa using hsz) (fun i o ho => ?_) (fun a w h1 h2 h3 h4 h5 => hend a w h1 h2 h3 (fun d hd => h4 d fun j hj e => ?_) (fun j hj => h5 j (by simpa using hj)))
 ·have := OpsDo.at_ l 0 hstep i o (by simpa using ho);rwa [Nat.zero_add] at this
 ·have hj' : j < l.length := by simpa using hj
  have hd' := List.all_eq_true.1 hd l[j] (List.getElem_mem hj');obtain ⟨d', hd2⟩ := (plain_at hp (i := j) (o := l[j]) (by simp [hj'])).2.1;have : slotOf l.toArray j = d' := slot_of (by simp [hj']) hd2;rw [hd2] at hd';rw [this] at e;subst e;simp at hd'
/-- Whether a guarded operation runs. -/
theorem wanted_at {ops : Array Oper} {o : Oper} {a : Act} {j d : Nat} {b want : Bool} (hg : o.guard = some (j, want)) (ho : (ops[j]?).bind (·.dst) = some d) (hd : d < a.tmps.size) (e : a.eval (.tmp d) = .bool b) :
  Region.wanted o (yielded ops a.tmps) = (some b == some want) := by
 have hy : yielded ops a.tmps j = some b := by
  unfold yielded;rw [ho]
  have h1 : a.tmps[d]? = some (.bool b) := by
   have : a.tmps.getD d undef = .bool b := e;rw [Array.getD_eq_getD_getElem?, Array.getElem?_eq_getElem hd] at this;rw [Array.getElem?_eq_getElem hd];simpa using this
  simp [h1]
 unfold Region.wanted;rw [hg];simp [hy]
theorem run_wanted {ops : Array Oper} {o : Oper} {a : Act} {j d n : Nat} {b : Bool} {A B : Prop} (hg : o.guard = some (j, b)) (ho : (ops[j]?).bind (·.dst) = some d) (hn : a.tmps.size = n) (hd : d < n) (e : a.eval (.tmp d) = .bool b) (h : A) :
  if Region.wanted o (yielded ops a.tmps) = true then A else B := by
 rw [wanted_at hg ho (by omega) e, if_pos (by simp)];exact h
theorem skip_wanted {ops : Array Oper} {o : Oper} {a : Act} {j d n : Nat} {b : Bool} {A B : Prop} (hg : o.guard = some (j, !b)) (ho : (ops[j]?).bind (·.dst) = some d) (hn : a.tmps.size = n) (hd : d < n) (e : a.eval (.tmp d) = .bool b) (h : B) :
  if Region.wanted o (yielded ops a.tmps) = true then A else B := by
 rw [wanted_at hg ho (by omega) e, if_neg (by cases b <;> simp)];exact h
end Go.Proofs.YtdfojghhpdkpfaaGreatDoor
namespace Go.Proofs.YtdfojghhpdkpfaaGreatDoor
open Go.RowKit
theorem SR {S : Nat → Prop} {w : World} : Same S w w := Same.refl S w
theorem LH {p : Prop} (h : p) : Go.RowKit.Hid p := h
theorem tv : True := trivial
theorem ST {w : World} : Same (fun _ => True) w w := Same.refl _ w
theorem LM : (∀ {α β : Type} (f : α → β) (l : List α), l.toArray.map f = (l.map f).toArray) ∧ (∀ {α β : Type} {f : α → β} {a : α} {l : List α}, (a :: l).map f = f a :: l.map f) ∧ (∀ {α β : Type} {f : α → β}, ([] : List α).map f = []) ∧ (∀ {α β : Type} (a : α) (f : α → β), (some a).map f = some (f a)) ∧ (∀ {α β : Type} (f : α → β), (none : Option α).map f = none) :=
 ⟨fun f l => by simp, by intros; rfl, by intros; rfl, by intros; rfl, by intros; rfl⟩
theorem LG : (∀ {α : Type} {a : α} {l : List α}, (a :: l)[0]? = some a) ∧ ∀ {α : Type} {a : α} {i : Nat} {l : List α}, (a :: l)[i + 1]? = l[i]? := ⟨List.getElem?_cons_zero, List.getElem?_cons_succ⟩
theorem LP : (∀ {α : Type} {l : List α} {i : Nat} {a : α}, l.toArray.setIfInBounds i a = (l.set i a).toArray) ∧ (∀ {α : Type} {a b : α} {i : Nat} {l : List α}, (a :: l).set (i + 1) b = a :: l.set i b) ∧ (∀ {α : Type} {a b : α} {l : List α}, (a :: l).set 0 b = b :: l) ∧ (∀ {α : Type} {a : α} {i : Nat} {l : List α}, (a :: l).take (i + 1) = a :: l.take i) ∧ (∀ {α : Type} {l : List α}, l.take 0 = []) ∧ (∀ {α : Type} {a : α} {i : Nat} {l : List α}, (a :: l).drop (i + 1) = l.drop i) ∧ (∀ {α : Type} {l : List α}, l.drop 0 = l) :=
 ⟨by intros; simp, by intros; rfl, by intros; rfl, by intros; rfl, by intros; rfl, by intros; rfl, by intros; rfl⟩
theorem RL : type_of% (And.intro @Region.wanted.eq_def (And.intro @Oper.wp.eq_def (And.intro @execOp.eq_def (And.intro @resolve.eq_def LM)))) := And.intro @Region.wanted.eq_def (And.intro @Oper.wp.eq_def (And.intro @execOp.eq_def (And.intro @resolve.eq_def LM)))
theorem EV {a : Act} (s : Nat) (v : Value) (h : a.eval (.tmp s) = v) : a.eval (.tmp s) = v := h
theorem RW (j d : Nat) (b : Bool) {ops : Array Oper} {o : Oper} {a : Act} {n : Nat} {A B : Prop} (hn : a.tmps.size = n) (e : a.eval (.tmp d) = .bool b) (h : A) (hg : o.guard = some (j, b) := by rfl) (ho : (ops[j]?).bind (·.dst) = some d := by rfl) (hd : d < n := by exact of_decide_eq_true rfl) :
  if Region.wanted o (yielded ops a.tmps) = true then A else B := run_wanted hg ho hn hd e h
theorem SW (j d : Nat) (b : Bool) {ops : Array Oper} {o : Oper} {a : Act} {n : Nat} {A B : Prop} (hn : a.tmps.size = n) (e : a.eval (.tmp d) = .bool b) (h : B) (hg : o.guard = some (j, !b) := by rfl) (ho : (ops[j]?).bind (·.dst) = some d := by rfl) (hd : d < n := by exact of_decide_eq_true rfl) :
  if Region.wanted o (yielded ops a.tmps) = true then A else B := skip_wanted hg ho hn hd e h
theorem MC {S : Nat → Prop} {w w' : World} {p : Addr} {v : Value} (hc : w.cell? p = some v) (h : Same S w w') (hs : S p.block) : w'.cell? p = some v := h.cell hs hc
theorem EP {a : Act} (s g o : Nat) (h : a.eval (.tmp s) = .pointer (some ⟨g, o, none⟩)) : a.eval (.tmp s) = .pointer (some ⟨g, o, none⟩) := h
theorem LN8 {α : Type} {l : List α} (h : l.length = 8) : ∃ a0 a1 a2 a3 a4 a5 a6 a7, l = [a0, a1, a2, a3, a4, a5, a6, a7] := by
 match l, h with
 | [a0, a1, a2, a3, a4, a5, a6, a7], _ => exact ⟨a0, a1, a2, a3, a4, a5, a6, a7, rfl⟩
theorem LN10 {α : Type} {l : List α} (h : l.length = 10) : ∃ a0 a1 a2 a3 a4 a5 a6 a7 a8 a9, l = [a0, a1, a2, a3, a4, a5, a6, a7, a8, a9] := by
 match l, h with
 | [a0, a1, a2, a3, a4, a5, a6, a7, a8, a9], _ => exact ⟨a0, a1, a2, a3, a4, a5, a6, a7, a8, a9, rfl⟩
theorem LN11 {α : Type} {l : List α} (h : l.length = 11) : ∃ a0 a1 a2 a3 a4 a5 a6 a7 a8 a9 a10, l = [a0, a1, a2, a3, a4, a5, a6, a7, a8, a9, a10] := by
 match l, h with
 | [a0, a1, a2, a3, a4, a5, a6, a7, a8, a9, a10], _ => exact ⟨a0, a1, a2, a3, a4, a5, a6, a7, a8, a9, a10, rfl⟩
theorem LN14 {α : Type} {l : List α} (h : l.length = 14) : ∃ a0 a1 a2 a3 a4 a5 a6 a7 a8 a9 a10 a11 a12 a13, l = [a0, a1, a2, a3, a4, a5, a6, a7, a8, a9, a10, a11, a12, a13] := by
 match l, h with
 | [a0, a1, a2, a3, a4, a5, a6, a7, a8, a9, a10, a11, a12, a13], _ => exact ⟨a0, a1, a2, a3, a4, a5, a6, a7, a8, a9, a10, a11, a12, a13, rfl⟩
theorem LN15 {α : Type} {l : List α} (h : l.length = 15) : ∃ a0 a1 a2 a3 a4 a5 a6 a7 a8 a9 a10 a11 a12 a13 a14, l = [a0, a1, a2, a3, a4, a5, a6, a7, a8, a9, a10, a11, a12, a13, a14] := by
 match l, h with
 | [a0, a1, a2, a3, a4, a5, a6, a7, a8, a9, a10, a11, a12, a13, a14], _ => exact ⟨a0, a1, a2, a3, a4, a5, a6, a7, a8, a9, a10, a11, a12, a13, a14, rfl⟩
theorem LN16 {α : Type} {l : List α} (h : l.length = 16) : ∃ a0 a1 a2 a3 a4 a5 a6 a7 a8 a9 a10 a11 a12 a13 a14 a15, l = [a0, a1, a2, a3, a4, a5, a6, a7, a8, a9, a10, a11, a12, a13, a14, a15] := by
 match l, h with
 | [a0, a1, a2, a3, a4, a5, a6, a7, a8, a9, a10, a11, a12, a13, a14, a15], _ => exact ⟨a0, a1, a2, a3, a4, a5, a6, a7, a8, a9, a10, a11, a12, a13, a14, a15, rfl⟩
theorem CN3 {w : World} {g : Nat} {e : TypeId} {a0 a1 a2 : Value} (h : Row w g e [a0, a1, a2]) : w.cell? ⟨g, 0, none⟩ = some a0 ∧ w.cell? ⟨g, 1, none⟩ = some a1 ∧ w.cell? ⟨g, 2, none⟩ = some a2 := ⟨h.cell 0, h.cell 1, h.cell 2⟩
theorem FN3 {w : World} {g : Nat} {e : TypeId} {xs : List Value} (h : Row w g e xs) : w.frozen? ⟨g, 0, none⟩ = false ∧ w.frozen? ⟨g, 1, none⟩ = false ∧ w.frozen? ⟨g, 2, none⟩ = false := ⟨h.frozen 0, h.frozen 1, h.frozen 2⟩
theorem CN4 {w : World} {g : Nat} {e : TypeId} {a0 a1 a2 a3 : Value} (h : Row w g e [a0, a1, a2, a3]) : w.cell? ⟨g, 0, none⟩ = some a0 ∧ w.cell? ⟨g, 1, none⟩ = some a1 ∧ w.cell? ⟨g, 2, none⟩ = some a2 ∧ w.cell? ⟨g, 3, none⟩ = some a3 := ⟨h.cell 0, h.cell 1, h.cell 2, h.cell 3⟩
theorem FN4 {w : World} {g : Nat} {e : TypeId} {xs : List Value} (h : Row w g e xs) : w.frozen? ⟨g, 0, none⟩ = false ∧ w.frozen? ⟨g, 1, none⟩ = false ∧ w.frozen? ⟨g, 2, none⟩ = false ∧ w.frozen? ⟨g, 3, none⟩ = false := ⟨h.frozen 0, h.frozen 1, h.frozen 2, h.frozen 3⟩
theorem CN7 {w : World} {g : Nat} {e : TypeId} {a0 a1 a2 a3 a4 a5 a6 : Value} (h : Row w g e [a0, a1, a2, a3, a4, a5, a6]) : w.cell? ⟨g, 0, none⟩ = some a0 ∧ w.cell? ⟨g, 1, none⟩ = some a1 ∧ w.cell? ⟨g, 2, none⟩ = some a2 ∧ w.cell? ⟨g, 3, none⟩ = some a3 ∧ w.cell? ⟨g, 4, none⟩ = some a4 ∧ w.cell? ⟨g, 5, none⟩ = some a5 ∧ w.cell? ⟨g, 6, none⟩ = some a6 := ⟨h.cell 0, h.cell 1, h.cell 2, h.cell 3, h.cell 4, h.cell 5, h.cell 6⟩
theorem FN7 {w : World} {g : Nat} {e : TypeId} {xs : List Value} (h : Row w g e xs) : w.frozen? ⟨g, 0, none⟩ = false ∧ w.frozen? ⟨g, 1, none⟩ = false ∧ w.frozen? ⟨g, 2, none⟩ = false ∧ w.frozen? ⟨g, 3, none⟩ = false ∧ w.frozen? ⟨g, 4, none⟩ = false ∧ w.frozen? ⟨g, 5, none⟩ = false ∧ w.frozen? ⟨g, 6, none⟩ = false := ⟨h.frozen 0, h.frozen 1, h.frozen 2, h.frozen 3, h.frozen 4, h.frozen 5, h.frozen 6⟩
end Go.Proofs.YtdfojghhpdkpfaaGreatDoor
namespace Go.Proofs.YtdfojghhpdkpfaaGreatDoor
/-- What holds of 256 numbers holds of every byte. -/
theorem u8_all {p : UInt8 → Bool} (h : (List.range 256).all (fun i => p (UInt8.ofNat i)) = true) (c : UInt8) : p c = true := by
 have := List.all_eq_true.1 h c.toNat (by simpa using c.toNat_lt);simpa using this
def isDig (c : UInt8) : Bool := decide (48 ≤ c) && decide (c ≤ 57)
def isLet (c : UInt8) : Bool := (decide (65 ≤ c) && decide (c ≤ 90)) || (decide (97 ≤ c) && decide (c ≤ 122)) || decide (c = 95)
def isWordy (c : UInt8) : Bool := isLet c || isDig c
def isBlank (c : UInt8) : Bool := decide (c = 9) || decide (c = 10) || decide (c = 13) || decide (c = 32)
def upB (c : UInt8) : UInt8 := if 97 ≤ c ∧ c ≤ 122 then c - 32 else c
def runF (p : UInt8 → Bool) (s : List UInt8) : Nat := (s.takeWhile p).length
def maxI : Nat := 9223372036854775807
/-- digits, from a number on. -/
def numGo : Nat → List UInt8 → Option Nat
 | v, [] => some v
 | v, c :: l => if maxI < 10 * v + (c.toNat - 48) then none else numGo (10 * v + (c.toNat - 48)) l
/-- A token (without its place). -/
structure Tok where
 kind : Nat
 s : List UInt8
 n : Nat
deriving DecidableEq
structure TRes where
 t : Tok
 n : Nat
 e : Nat
deriving DecidableEq
def tErr (e : Nat) : TRes := ⟨⟨0, [], 0⟩, 0, e⟩
def numF (s : List UInt8) : TRes :=
 match numGo 0 (s.takeWhile isDig) with
 | none => tErr 5
 | some v => match (s.dropWhile isDig).head? with
  | some c => if isLet c then tErr 13 else ⟨⟨2, [], v⟩, runF isDig s, 0⟩
  | none => ⟨⟨2, [], v⟩, runF isDig s, 0⟩
/-- What stands between quotes: behind the first i bytes. -/
def textGo : List UInt8 → Nat → List UInt8 → TRes
 | _, _, [] => tErr 13
 | acc, i, c :: l =>
  if c = 39 then
   match l with
   | 39 :: l' => textGo (acc ++ [39]) (i + 2) l'
   | _ => if 64 < acc.length then tErr 3 else ⟨⟨3, acc, 0⟩, i + 1, 0⟩
  else textGo (acc ++ [c]) (i + 1) l
def isSign (c : UInt8) : Bool := [40, 41, 44, 59, 42, 61, 60, 62, 43, 45, 47, 37].contains c
def isTwo (a b : UInt8) : Bool := (a == 60 && b == 62) || (a == 60 && b == 61) || (a == 62 && b == 61)
def signF : List UInt8 → TRes
 | [] => tErr 13
 | [a] => if isSign a then ⟨⟨4, [a], 0⟩, 1, 0⟩ else tErr 13
 | a :: b :: _ => if isTwo a b then ⟨⟨4, [a, b], 0⟩, 2, 0⟩ else if isSign a then ⟨⟨4, [a], 0⟩, 1, 0⟩ else tErr 13
def tokF : List UInt8 → TRes
 | [] => tErr 13
 | c :: l =>
  if isBlank c then ⟨⟨0, [], 0⟩, 1, 0⟩
  else if isLet c then ⟨⟨1, ((c :: l).takeWhile isWordy).map upB, 0⟩, runF isWordy (c :: l), 0⟩
  else if isDig c then numF (c :: l)
  else if c = 39 then textGo [] 1 l
  else signF (c :: l)
theorem textGo_pos : ∀ (k : Nat) (acc : List UInt8) (i : Nat) (l : List UInt8), l.length ≤ k → (textGo acc i l).e = 0 → i ≤ (textGo acc i l).n ∧ (textGo acc i l).n ≤ i + l.length := by
 intro k
 induction k with
 | zero =>
  intro acc i l hl h;have : l = [] := List.eq_nil_of_length_eq_zero (by omega);subst this;simp [textGo, tErr] at h
 | succ k ih =>
  intro acc i l hl h;cases l with
  | nil => simp [textGo, tErr] at h
  | cons c l =>
   unfold textGo at h ⊢;by_cases hc : c = 39
   ·rw [if_pos hc] at h ⊢;split at h
    ·rename_i l';obtain ⟨h1, h2⟩ := ih _ _ _ (by simp at hl ⊢; omega) h;simp only [List.length_cons];constructor <;> omega
    ·split at h
     ·simp [tErr] at h
     ·rename_i hl2;simp only [if_neg hl2, List.length_cons];constructor <;> omega
   ·rw [if_neg hc] at h ⊢;obtain ⟨h1, h2⟩ := ih _ _ _ (by simp at hl; omega) h;simp only [List.length_cons];constructor <;> omega
theorem runF_le (p : UInt8 → Bool) (s : List UInt8) : runF p s ≤ s.length := by
 unfold runF;exact (List.takeWhile_prefix p).length_le
theorem runF_pos {p : UInt8 → Bool} {c : UInt8} {l : List UInt8} (h : p c = true) : 1 ≤ runF p (c :: l) := by
 simp [runF, List.takeWhile_cons, h]
theorem numF_pos {c : UInt8} {l : List UInt8} (hc : isDig c = true) (h : (numF (c :: l)).e = 0) : 1 ≤ (numF (c :: l)).n ∧ (numF (c :: l)).n ≤ (c :: l).length := by
 unfold numF at h ⊢;have h1 := runF_pos (p := isDig) (l := l) hc;have h2 := runF_le isDig (c :: l);split at h
 ·simp [tErr] at h
 ·split at h
  ·split at h
   ·simp [tErr] at h
   ·rename_i hh; simp only [if_neg hh]; exact ⟨h1, h2⟩
  ·exact ⟨h1, h2⟩
theorem signF_pos {s : List UInt8} (h : (signF s).e = 0) : 1 ≤ (signF s).n ∧ (signF s).n ≤ s.length := by
 match s with
 | [] => simp [signF, tErr] at h
 | [a] =>
  simp only [signF] at h ⊢;split at h
  ·rename_i h1; simp [h1]
  ·simp [tErr] at h
 | a :: b :: l =>
  simp only [signF] at h ⊢;split at h
  ·rename_i h1; simp [h1]
  ·rename_i h1;split at h
   ·rename_i h2; simp [h1, h2]
   ·simp [tErr] at h
theorem tokF_pos {s : List UInt8} (h : (tokF s).e = 0) : 1 ≤ (tokF s).n ∧ (tokF s).n ≤ s.length := by
 cases s with
 | nil => simp [tokF, tErr] at h
 | cons c l =>
  simp only [tokF] at h ⊢;by_cases h1 : isBlank c = true
  ·simp [h1]
  ·simp only [h1, if_false, Bool.false_eq_true] at h ⊢;by_cases h2 : isLet c = true
   ·simp only [h2, if_true] at h ⊢;exact ⟨runF_pos (by simp [isWordy, h2]), runF_le _ _⟩
   ·simp only [h2, if_false, Bool.false_eq_true] at h ⊢;by_cases h3 : isDig c = true
    ·simp only [h3, if_true] at h ⊢;exact numF_pos h3 h
    ·simp only [h3, if_false, Bool.false_eq_true] at h ⊢;by_cases h4 : c = 39
     ·simp only [h4, if_true] at h ⊢;have := textGo_pos l.length [] 1 l (Nat.le_refl _) h;simp only [List.length_cons];omega
     ·simp only [h4, if_false] at h ⊢;exact signF_pos h
/-- The tokens from a place on: an error, or the tokens with their places. -/
def lexFrom (i : Nat) (s : List UInt8) : Nat × List (Nat × Tok) :=
 if hs : s = [] then (0, [])
 else if he : (tokF s).e = 0 then
  let y := lexFrom (i + (tokF s).n) (s.drop (tokF s).n)
  if y.1 = 0 then (0, (if (tokF s).t.kind = 0 then [] else [(i, (tokF s).t)]) ++ y.2) else (y.1, [])
 else ((tokF s).e, [])
termination_by s.length
decreasing_by
 have := tokF_pos he
 simp only [List.length_drop]
 have : 0 < s.length := by cases s with | nil => exact absurd rfl hs | cons _ _ => simp
 omega
theorem lexFrom_nil (i : Nat) : lexFrom i [] = (0, []) := by unfold lexFrom; simp
theorem lexFrom_err {i : Nat} {s : List UInt8} (hs : s ≠ []) (h : (tokF s).e ≠ 0) : lexFrom i s = ((tokF s).e, []) := by
 unfold lexFrom; simp [hs, h]
theorem lexFrom_go {i : Nat} {s : List UInt8} (hs : s ≠ []) (h : (tokF s).e = 0) :
  lexFrom i s = if (lexFrom (i + (tokF s).n) (s.drop (tokF s).n)).1 = 0 then (0, (if (tokF s).t.kind = 0 then [] else [(i, (tokF s).t)]) ++ (lexFrom (i + (tokF s).n) (s.drop (tokF s).n)).2) else ((lexFrom (i + (tokF s).n) (s.drop (tokF s).n)).1, []) := by
 conv => lhs; unfold lexFrom
 simp [hs, h]
/-- All tokens: an error, or the tokens, the end behind them. -/
def lexF (s : List UInt8) : Nat × List (Nat × Tok) :=
 if 2000 < s.length then (3, [])
 else if (lexFrom 0 s).1 = 0 then (0, (lexFrom 0 s).2 ++ [(s.length, ⟨0, [], 0⟩)]) else ((lexFrom 0 s).1, [])
/-- A byte that ends each token ahead of it. -/
structure Stop (x : UInt8) : Prop where
 w : isWordy x = false
 l : isLet x = false
 d : isDig x = false
 q : x ≠ 39
 t : ∀ c, isTwo c x = false
 b : isBlank x = true
theorem textGo_q (acc : List UInt8) (i : Nat) (l : List UInt8) (h : l.head? ≠ some 39) : textGo acc i (39 :: l) = if 64 < acc.length then tErr 3 else ⟨⟨3, acc, 0⟩, i + 1, 0⟩ := by
 unfold textGo;rw [if_pos rfl];split
 ·simp at h
 ·rfl
theorem textGo_qq (acc : List UInt8) (i : Nat) (l : List UInt8) : textGo acc i (39 :: 39 :: l) = textGo (acc ++ [39]) (i + 2) l := by
 conv => lhs; unfold textGo
 rw [if_pos rfl];rfl
theorem textGo_c (acc : List UInt8) (i : Nat) (c : UInt8) (l : List UInt8) (h : c ≠ 39) : textGo acc i (c :: l) = textGo (acc ++ [c]) (i + 1) l := by
 conv => lhs; unfold textGo
 rw [if_neg h]
theorem lexFrom_res (i : Nat) (s : List UInt8) (h : (lexFrom i s).1 ≠ 0) : lexFrom i s = ((lexFrom i s).1, []) := by
 by_cases hs : s = []
 ·subst hs; rw [lexFrom_nil] at h; exact absurd rfl h
 ·by_cases he : (tokF s).e = 0
  ·rw [lexFrom_go hs he] at h ⊢;split
   ·rename_i h1; rw [if_pos h1] at h; exact absurd rfl h
   ·rfl
  ·rw [lexFrom_err hs he]
theorem lexFrom_pair (i : Nat) (s : List UInt8) : lexFrom i s = if (lexFrom i s).1 = 0 then (0, (lexFrom i s).2) else ((lexFrom i s).1, []) := by
 split
 ·rename_i h; rw [← h]
 ·rename_i h; exact lexFrom_res i s h
/-- Behind a beginning whose tokens are fine. -/
def thenL (x y : Nat × List (Nat × Tok)) : Nat × List (Nat × Tok) := if y.1 = 0 then (0, x.2 ++ y.2) else (y.1, [])
/-- There are no more tokens than bytes. -/
theorem lexFrom_len : ∀ (k : Nat) (s : List UInt8) (i : Nat), s.length ≤ k → (lexFrom i s).2.length ≤ s.length := by
 intro k
 induction k with
 | zero =>
  intro s i hl;have : s = [] := List.eq_nil_of_length_eq_zero (by omega);subst this;rw [lexFrom_nil]; simp
 | succ k ih =>
  intro s i hl;by_cases hs : s = []
  ·subst hs;rw [lexFrom_nil]; simp
  ·by_cases he : (tokF s).e = 0
   ·have hp := tokF_pos he;rw [lexFrom_go hs he];have := ih (s.drop (tokF s).n) (i + (tokF s).n) (by simp; omega);rw [List.length_drop] at this;split
    ·simp only [List.length_append];split <;> simp <;> omega
    ·simp
   ·rw [lexFrom_err hs he]; simp
def digL (n : Nat) : List UInt8 := if h : n < 10 then [UInt8.ofNat (48 + n)] else digL (n / 10) ++ [UInt8.ofNat (48 + n % 10)]
termination_by n
def wordOk (s : List UInt8) : Bool := (match s with | [] => false | c :: _ => !isDig c) && s.all isWordy && decide (s.map upB = s)
/-- Each quote stands twice. -/
def dbl (s : List UInt8) : List UInt8 := s.flatMap fun c => if c = 39 then [39, 39] else [c]
theorem contains_nil (sub : List UInt8) (h : sub ≠ []) : Lib.contains [] sub = false := by
 cases sub with
 | nil => exact absurd rfl h
 | cons a t => rfl
theorem contains_cons (b : UInt8) (l sub : List UInt8) : Lib.contains (b :: l) sub = (sub.isPrefixOf (b :: l) || Lib.contains l sub) := by
 unfold Lib.contains
 conv => lhs; unfold Lib.index
 have hg := Lib.index_ge l sub;by_cases h : sub.isPrefixOf (b :: l) = true
 ·rw [if_pos h, h]; rfl
 ·have h' : sub.isPrefixOf (b :: l) = false := Bool.eq_false_iff.2 h;rw [h', Bool.false_or];simp only [if_false, Bool.false_eq_true];by_cases h1 : Lib.index l sub = -1
  ·rw [h1]; rfl
  ·have h2 : (Lib.index l sub == -1) = false := by rw [beq_eq_false_iff_ne]; exact h1
   simp only [h2, if_false, Bool.false_eq_true];rw [decide_eq_decide];omega
def noBl (w : List UInt8) : Bool := w.all fun c => c != 32
theorem contains_skip (t rest : List UInt8) : ∀ w : List UInt8, noBl w = true → Lib.contains (w ++ rest) (32 :: t) = Lib.contains rest (32 :: t)
 | [], _ => rfl
 | c :: w, h => by
  simp only [noBl, List.all_cons, Bool.and_eq_true] at h;rw [List.cons_append, contains_cons, contains_skip t rest w h.2]
  have : (32 == c) = false := by
   have := h.1;simp at this ⊢;exact fun e => this e.symm
  simp [List.isPrefixOf, this]
theorem prefix_words (rest : List UInt8) : ∀ s w : List UInt8, noBl s = true → noBl w = true → (s ++ [32]).isPrefixOf (w ++ 32 :: rest) = (s == w)
 | [], [], _, _ => by simp [List.isPrefixOf]
 | [], c :: w, _, hw => by
  simp only [noBl, List.all_cons, Bool.and_eq_true] at hw
  have : (32 == c) = false := by
   have := hw.1;simp at this ⊢;exact fun e => this e.symm
  simp [List.isPrefixOf, this]
 | a :: s, [], hs, _ => by
  simp only [noBl, List.all_cons, Bool.and_eq_true] at hs
  have : (a == 32) = false := by
   have := hs.1;simpa using this
  simp [List.isPrefixOf, this]
 | a :: s, c :: w, hs, hw => by
  simp only [noBl, List.all_cons, Bool.and_eq_true] at hs hw;have ih := prefix_words rest s w hs.2 hw.2;simp only [List.cons_append, List.isPrefixOf, ih];rfl
def joinW (ws : List (List UInt8)) : List UInt8 := 32 :: ws.flatMap fun w => w ++ [32]
theorem joinW_cons (w : List UInt8) (ws : List (List UInt8)) : joinW (w :: ws) = 32 :: (w ++ joinW ws) := by simp [joinW]
theorem contains_words (s : List UInt8) (hs : noBl s = true) : ∀ ws : List (List UInt8), ws.all noBl = true → Lib.contains (joinW ws) (32 :: s ++ [32]) = ws.contains s
 | [], _ => by
  rw [List.cons_append];show Lib.contains [32] _ = _;rw [contains_cons, contains_nil _ (by simp)];cases s <;> simp [List.isPrefixOf]
 | w :: ws, h => by
  simp only [List.all_cons, Bool.and_eq_true] at h;rw [List.cons_append, joinW_cons, contains_cons, contains_skip _ _ w h.1];have ih := contains_words s hs ws h.2;rw [List.cons_append] at ih;rw [ih, List.contains_cons];have : joinW ws = 32 :: ws.flatMap fun w => w ++ [32] := rfl
  rw [this];simp only [List.isPrefixOf, BEq.rfl, Bool.true_and];rw [prefix_words _ s w hs h.1]
/-- The reserved words. -/
def resW : List (List UInt8) := [[65, 76, 76], [65, 78, 68], [65, 83], [65, 83, 67], [66, 69, 84, 87, 69, 69, 78], [66, 79, 85, 78, 68], [66, 89], [67, 79, 85, 78, 84], [68, 69, 76, 69, 84, 69], [68, 69, 83, 67], [69, 88, 65, 67, 84], [70, 65, 76, 83, 69], [70, 82, 79, 77], [73, 78, 83, 69, 82, 84], [73, 78, 84, 79], [73, 83], [76, 73, 77, 73, 84], [78, 79, 84], [78, 85, 76, 76], [78, 79, 87], [79, 70], [79, 82], [79, 82, 68, 69, 82], [83, 69, 76, 69, 67, 84], [83, 69, 84], [83, 85, 77], [83, 89, 83, 84, 69, 77], [84, 73, 77, 69], [84, 82, 85, 69], [85, 80, 68, 65, 84, 69], [86, 65, 76, 85, 69, 83], [87, 72, 69, 82, 69]]
theorem resW_all : resW.all noBl = true := by decide +kernel
def wordF (s : List UInt8) : Bool := decide (s.length ≤ 16) && wordOk s && !resW.contains s
theorem wordy_noBl {s : List UInt8} (h : s.all isWordy = true) : noBl s = true := by
 unfold noBl;rw [List.all_eq_true] at h ⊢;intro c hc;have h1 := h c hc;have := u8_all (p := fun c => !isWordy c || (c != 32)) (by decide +kernel) c;rw [h1] at this;simpa using this
theorem runF_all (p : UInt8 → Bool) : ∀ s : List UInt8, (runF p s = s.length) ↔ s.all p = true
 | [] => by simp [runF]
 | c :: s => by
  have ih := runF_all p s;cases h : p c
  ·simp [runF, List.takeWhile_cons, h]
  ·simp only [runF, List.takeWhile_cons, h, if_true, List.length_cons, List.all_cons, Bool.true_and];rw [← ih];unfold runF;omega
end Go.Proofs.YtdfojghhpdkpfaaGreatDoor
namespace Go.Proofs.YtdfojghhpdkpfaaGreatDoor
open Go.RowKit
abbrev bl (s : ByteArray) : List UInt8 := s.data.toList
theorem bl_len (s : ByteArray) : (bl s).length = s.size := Array.length_toList
theorem str_bl (s : ByteArray) : str (bl s) = s := rfl
theorem bl_str (l : List UInt8) : bl (str l) = l := rfl
/-- A block of cells known whole, its mark behind the first q cells. -/
def RowQ (w : World) (g : Nat) (e : TypeId) (q : Nat) (xs : List Value) : Prop := w.heap[g]? = some (.cells xs.toArray e (q, q + 1))
section
variable {S : Nat → Prop} {w w' : World} {g q : Nat} {e : TypeId} {xs : List Value}
theorem RowQ.lt (h : RowQ w g e q xs) : g < w.heap.size := by
 rcases Nat.lt_or_ge g w.heap.size with hlt | hge
 ·exact hlt
 ·unfold RowQ at h; rw [Array.getElem?_eq_none hge] at h; cases h
theorem RowQ.cell (h : RowQ w g e q xs) (i : Nat) : w.cell? ⟨g, i, none⟩ = xs[i]? := by
 rw [cell_of_row w g i _ e _ h]; simp
theorem RowQ.frozen (h : RowQ w g e q xs) (i : Nat) (hi : i < q) : w.frozen? ⟨g, i, none⟩ = false := by
 unfold RowQ at h;simp [World.frozen?, h]; omega
theorem RowQ.keep (h : RowQ w g e q xs) (hk : Same S w w') (hs : S g) : RowQ w' g e q xs := (hk.block g h.lt hs).trans h
theorem RowQ.set_ (h : RowQ w g e q xs) (i : Nat) (u : Value) : RowQ (w.setCell ⟨g, i, none⟩ u) g e q (xs.set i u) := by
 unfold RowQ at h ⊢;simp [World.setCell, Array.getElem?_modify, h]
theorem RowQ.sl (h : RowQ w g e q xs) {n : Nat} (hn : n ≤ xs.length) : Sl w (fun k => k = g) 1 (some ⟨g, 0, none⟩) n (xs.take n) := by
 refine ⟨by simp; omega, fun _ => ⟨_, rfl, rfl, fun j u hu => ?_⟩⟩;have e0 : (⟨g, 0, none⟩ : Addr).add j = ⟨g, j, none⟩ := by unfold Addr.add; split <;> simp_all
 rw [e0, h.cell];rw [List.getElem?_take] at hu;split at hu
 ·exact hu
 ·cases hu
end
/-- A guard: the operation is a conversion. -/
theorem stopConv {P : Program} {w : World} {ops : Array Oper} {rest : List Oper} {o : Oper} {a : Act} {Q : Exit → Act → World → Prop} {t u : TypeId} {x : Operand}
  (ho : o.op = .convert t u x) (h : Hid (wpList P ops Q (o :: rest) a w)) : wpList P ops Q (o :: rest) a w := h
theorem wpList_conv {P : Program} {w w' : World} {ops : Array Oper} {rest : List Oper} {o : Oper} {a : Act} {Q : Exit → Act → World → Prop} (hgd : o.guard = none) {t u : TypeId} {x : Operand}
  (ho : o.op = .convert t u x) {v r : Value} (hx : a.eval x = v) (hr : (convert t u v).run P w = .ok r w') (h : wpList P ops Q rest (a.put o.dst r) w') : wpList P ops Q (o :: rest) a w := by
 refine wpList_plain hgd fun K hK => ?_
 unfold Oper.wp execOp;simp only [ho, hx, hr, Sem.run_bind, Sem.run_pure, Result.andThen_ok];exact hK _ _ h
/-- '[]byte(s)': a row of its own, with room behind. -/
theorem wpList_bytes {P : Program} {w : World} {ops : Array Oper} {rest : List Oper} {o : Oper} {a : Act} {Q : Exit → Act → World → Prop} (hgd : o.guard = none) {t u e : TypeId} {x : Operand}
  (ho : o.op = .convert t u x) (hs : P.underlying t = some .string) (hd : P.underlying u = some (.slice e)) (he : P.underlying e = some (.int .u8)) (s : ByteArray) (hx : a.eval x = .string s) (hm : s.size ≤ maxLen)
  (h : ∀ (w' : World) (c q : Nat) (more : List Value), RowQ w' w.heap.size e q (cs8 (bl s) ++ more) → s.size ≤ q → s.size ≤ c → c ≤ maxLen → Same (fun _ => True) w w' → w.heap.size < w'.heap.size → wpList P ops Q rest (a.put o.dst (.slice (some ⟨w.heap.size, 0, none⟩) s.size c)) w') :
  wpList P ops Q (o :: rest) a w := by
 have hr := run_bytes_of_string (P := P) w t u e s hs hd he;refine wpList_conv hgd ho hx hr ?_;have hge := grownCap_ge w s.size 0 e;have hle := grownCap_le_maxLen w s.size 0 e hm;generalize grownCap w s.size 0 e = c at *;have hsz : (bytesRow s c).size = s.size + (c - s.size) := by simp [bytesRow]
 refine h _ c (bytesRow s c).size (List.replicate (c - s.size) (.int .u8 0)) ?_ (by omega) hge hle ((SR.drew).alloc _) (by simp)
 have e1 : (cs8 (bl s) ++ List.replicate (c - s.size) (Value.int .u8 0)).toArray = bytesRow s c := by
  apply Array.toList_inj.1;simp [bytesRow, cs8, V8, n8]
 unfold RowQ;rw [e1];have := heap_alloc_new w.drew (.cells (bytesRow s c) e ((bytesRow s c).size, (bytesRow s c).size + 1));exact this
theorem RowQ.by_ {w : World} {g q c n : Nat} {e : TypeId} {l : List UInt8} {more : List Value} (h : RowQ w g e q (cs8 l ++ more)) (hn : l.length = n) (hc : n ≤ c) (hm : c ≤ maxLen) : By w (fun k => k = g) (.slice (some ⟨g, 0, none⟩) n c) l := by
 subst hn;have h1 := h.sl (n := l.length) (by simp [cs8]);rw [List.take_append_of_le_length (by simp [cs8]), List.take_of_length_le (by simp [cs8])] at h1;exact ⟨_, c, rfl, hc, hm, h1⟩
/-- The conversion of bytes that read. -/
theorem By.conv {P : Program} {w : World} {S : Nat → Prop} {v : Value} {l : List UInt8} (src dst e : TypeId)
  (hs : P.underlying src = some (.slice e)) (he : P.underlying e = some (.int .u8)) (hd : P.underlying dst = some .string) (h : By w S v l) : (convert src dst v).run P w = .ok (.string (str l)) w := by
 obtain ⟨A, c, rfl, _, _, h⟩ := h;exact conv_str c src dst e hs he hd h
@[go_sem] theorem str_toL (l : List UInt8) : (str l).toList = l := by rw [ByteArray.toList_eq]; rfl
structure Val where
 kind : Int
 n : Int
 s : List UInt8
deriving DecidableEq
inductive Ex where
 | mk (kind : Int) (s : List UInt8) (v : Val) (args : List Ex)
def Ex.kind : Ex → Int | .mk k _ _ _ => k
def Ex.s : Ex → List UInt8 | .mk _ s _ _ => s
def Ex.v : Ex → Val | .mk _ _ v _ => v
def Ex.args : Ex → List Ex | .mk _ _ _ l => l
def Val.zero : Val := ⟨0, 0, []⟩
/-- Trees by induction on their arguments. -/
theorem Ex.ind {P : Ex → Prop} (h : ∀ k s v l, (∀ a ∈ l, P a) → P (.mk k s v l)) : ∀ e, P e :=
 fun e => Ex.rec (motive_1 := P) (motive_2 := fun l => ∀ a ∈ l, P a) (fun k s v l ih => h k s v l ih) (fun a ha => by simp at ha) (fun a l ha hl b hb => by
  rcases List.mem_cons.1 hb with rfl | hb
  ·exact ha
  ·exact hl b hb) e
mutual
def Ex.size : Ex → Nat
 | .mk _ _ _ l => sizeL l + 1
def sizeL : List Ex → Nat
 | [] => 0
 | a :: l => a.size + sizeL l
end
def valCs (v : Val) : List Value := [.int .i64 v.kind, .int .i64 v.n, .string (str v.s)]
abbrev valV (v : Val) : Value := .agg #[.int .i64 v.kind, .int .i64 v.n, .string (str v.s)]
/-- An expression's own cells; u: the slice of its arguments. -/
def exCs (u : Value) (e : Ex) : List Value := [.int .i64 e.kind, .string (str e.s), .int .i64 e.v.kind, .int .i64 e.v.n, .string (str e.v.s), u]
abbrev exV (u : Value) (e : Ex) : Value := .agg #[.int .i64 e.kind, .string (str e.s), .int .i64 e.v.kind, .int .i64 e.v.n, .string (str e.v.s), u]
theorem exCs_len (u : Value) (e : Ex) : (exCs u e).length = 6 := rfl
theorem flat_at6 : ∀ (l : List (Value × Ex)) (i j : Nat) (h : i < l.length), j < 6 → (l.flatMap fun p => exCs p.1 p.2)[i * 6 + j]? = (exCs l[i].1 l[i].2)[j]?
 | [], i, j, h, _ => absurd h (Nat.not_lt_zero _)
 | x :: l, 0, j, _, hj => by
  rw [List.flatMap_cons, List.getElem?_append_left (by rw [exCs_len]; omega)];simp
 | x :: l, i + 1, j, h, hj => by
  have e : (i + 1) * 6 + j = 6 + (i * 6 + j) := by omega
  rw [List.flatMap_cons, List.getElem?_append_right (by rw [exCs_len, e]; omega), exCs_len, e];have := flat_at6 l i j (by simpa using h) hj;rw [show 6 + (i * 6 + j) - 6 = i * 6 + j from by omega];simpa using this
/-- The slice u holds the arguments of e, and theirs, to the last. -/
inductive ExR (w : World) (S : Nat → Prop) : Value → Ex → Prop where
 | mk (k : Int) (s : List UInt8) (v : Val) (l : List Ex) (us : List Value) (A : Option Addr) (c : Nat) (hu : us.length = l.length) (hc : l.length ≤ c) (hm : c ≤ maxLen)
   (hs : Sl w S 6 A l.length ((us.zip l).flatMap fun p => exCs p.1 p.2)) (he : ∀ (i : Nat) (u : Value) (e : Ex), us[i]? = some u → l[i]? = some e → ExR w S u e) : ExR w S (.slice A l.length c) (.mk k s v l)
/-- A slice of expressions. -/
def ExL (w : World) (S : Nat → Prop) (u : Value) (l : List Ex) : Prop :=
 ∃ (us : List Value) (A : Option Addr) (c : Nat), u = .slice A l.length c ∧ us.length = l.length ∧ l.length ≤ c ∧ c ≤ maxLen ∧ Sl w S 6 A l.length ((us.zip l).flatMap fun p => exCs p.1 p.2) ∧ ∀ (i : Nat) (u : Value) (e : Ex), us[i]? = some u → l[i]? = some e → ExR w S u e
section
variable {w w' : World} {S S' : Nat → Prop} {u : Value} {e : Ex} {l : List Ex}
theorem ExR.toL (h : ExR w S u e) : ExL w S u e.args := by
 cases h with
 | mk k s v l us A c hu hc hm hs he => exact ⟨us, A, c, rfl, hu, hc, hm, hs, he⟩
theorem ExL.toR (k : Int) (s : List UInt8) (v : Val) (h : ExL w S u l) : ExR w S u (.mk k s v l) := by
 obtain ⟨us, A, c, rfl, hu, hc, hm, hs, he⟩ := h;exact .mk k s v l us A c hu hc hm hs he
theorem ExR.iff (u : Value) (e : Ex) : ExR w S u e ↔ ExL w S u e.args := by
 obtain ⟨k, s, v, l⟩ := e;exact ⟨ExR.toL, ExL.toR k s v⟩
theorem ExR.keep (h : ExR w S u e) (hk : Same S w w') : ExR w' S u e := by
 induction h with
 | mk k s v l us A c hu hc hm hs he ih => exact .mk k s v l us A c hu hc hm (hs.keep hk) ih
theorem ExR.mono (h : ExR w S u e) (hS : ∀ k, k < w.heap.size → S k → S' k) : ExR w S' u e := by
 induction h with
 | mk k s v l us A c hu hc hm hs he ih => exact .mk k s v l us A c hu hc hm (hs.mono hS (by omega)) ih
theorem ExR.keepAll (h : ExR w S u e) (hk : Same (fun _ => True) w w') : ExR w' S u e := h.keep (hk.mono fun _ _ _ => tv)
theorem ExL.keep (h : ExL w S u l) (hk : Same S w w') : ExL w' S u l := ((h.toR 0 [] .zero).keep hk).toL
theorem ExL.keepAll (h : ExL w S u l) (hk : Same (fun _ => True) w w') : ExL w' S u l := h.keep (hk.mono fun _ _ _ => tv)
theorem ExL.mono (h : ExL w S u l) (hS : ∀ k, k < w.heap.size → S k → S' k) : ExL w S' u l := ((h.toR 0 [] .zero).mono hS).toL
theorem ExL.form (h : ExL w S u l) : ∃ A c, u = .slice A l.length c ∧ l.length ≤ c ∧ c ≤ maxLen := by
 obtain ⟨us, A, c, h1, _, h2, h3, _⟩ := h;exact ⟨A, c, h1, h2, h3⟩
theorem ExL.cells {A : Option Addr} {n c : Nat} (h : ExL w S (.slice A n c) l) {i : Nat} (hi : i < l.length) : ∃ ad u, A = some ad ∧ S ad.block ∧ ExL w S u l[i].args ∧
  w.cell? (ad.add (i * 6)) = some (.int .i64 l[i].kind) ∧ w.cell? ⟨(ad.add (i * 6)).block, (ad.add (i * 6)).off + 1, none⟩ = some (.string (str l[i].s)) ∧ w.cell? ⟨(ad.add (i * 6)).block, (ad.add (i * 6)).off + 2, none⟩ = some (.int .i64 l[i].v.kind) ∧ w.cell? ⟨(ad.add (i * 6)).block, (ad.add (i * 6)).off + 3, none⟩ = some (.int .i64 l[i].v.n) ∧ w.cell? ⟨(ad.add (i * 6)).block, (ad.add (i * 6)).off + 4, none⟩ = some (.string (str l[i].v.s)) ∧ w.cell? ⟨(ad.add (i * 6)).block, (ad.add (i * 6)).off + 5, none⟩ = some u := by
 obtain ⟨us, A', c', h1, hu, hc, hm, hs, he⟩ := h;injection h1 with h1 h2 h3;subst h1;obtain ⟨ad, rfl, hS, hcell⟩ := hs.2 (by omega);have hz : i < (us.zip l).length := by simp [hu, hi]
 have key : ∀ j, j < 6 → w.cell? ((ad.add (i * 6)).add j) = (exCs (us[i]'(by omega)) l[i])[j]? := by
  intro j hj;have e0 := flat_at6 (us.zip l) i j hz hj;rw [add_of_add];have e1 : (us.zip l)[i] = (us[i]'(by omega), l[i]) := by simp
  rw [e1] at e0;have hj' : j < (exCs (us[i]'(by omega)) l[i]).length := hj;rw [List.getElem?_eq_getElem hj'] at e0 ⊢;exact hcell _ _ e0
 have add0 : ∀ a : Addr, a.add 0 = a := fun a => by simp [Addr.add]
 have addp : ∀ (a : Addr) (j : Nat), 0 < j → a.add j = ⟨a.block, a.off + j, none⟩ := fun a j h => by unfold Addr.add; rw [if_neg (by omega)]
 have k1 := key 1 (by omega);have k2 := key 2 (by omega);have k3 := key 3 (by omega);have k4 := key 4 (by omega);have k5 := key 5 (by omega);rw [addp _ _ (by omega)] at k1 k2 k3 k4 k5;refine ⟨ad, us[i]'(by omega), rfl, hS, ((ExR.iff _ _).1 (he i _ l[i] (List.getElem?_eq_getElem (by omega)) (List.getElem?_eq_getElem hi))), ?_, k1, k2, k3, k4, k5⟩;have := key 0 (by omega);rwa [add0] at this
end
def wSELECT : List UInt8 := [83, 69, 76, 69, 67, 84]
def wINSERT : List UInt8 := [73, 78, 83, 69, 82, 84]
def wUPDATE : List UInt8 := [85, 80, 68, 65, 84, 69]
def wDELETE : List UInt8 := [68, 69, 76, 69, 84, 69]
def wINTO : List UInt8 := [73, 78, 84, 79]
def wVALUES : List UInt8 := [86, 65, 76, 85, 69, 83]
def wSET : List UInt8 := [83, 69, 84]
def wFROM : List UInt8 := [70, 82, 79, 77]
def wWHERE : List UInt8 := [87, 72, 69, 82, 69]
def wORDER : List UInt8 := [79, 82, 68, 69, 82]
def wBY : List UInt8 := [66, 89]
def wDESC : List UInt8 := [68, 69, 83, 67]
def wASC : List UInt8 := [65, 83, 67]
def wLIMIT : List UInt8 := [76, 73, 77, 73, 84]
def wCOUNT : List UInt8 := [67, 79, 85, 78, 84]
def wSUM : List UInt8 := [83, 85, 77]
def wAS : List UInt8 := [65, 83]
def wOF : List UInt8 := [79, 70]
def wSYSTEM : List UInt8 := [83, 89, 83, 84, 69, 77]
def wTIME : List UInt8 := [84, 73, 77, 69]
def wBOUND : List UInt8 := [66, 79, 85, 78, 68]
def wOR : List UInt8 := [79, 82]
def wAND : List UInt8 := [65, 78, 68]
def wNOT : List UInt8 := [78, 79, 84]
def wIS : List UInt8 := [73, 83]
def wNULL : List UInt8 := [78, 85, 76, 76]
def wTRUE : List UInt8 := [84, 82, 85, 69]
def wFALSE : List UInt8 := [70, 65, 76, 83, 69]
def wISNULL : List UInt8 := [73, 83, 78, 85, 76, 76]
def wNOTNULL : List UInt8 := [78, 79, 84, 78, 85, 76, 76]
def wNEG : List UInt8 := [78, 69, 71]
def mayV (v : Val) : Bool :=
 if v.kind = 0 then decide (v.n = 0) && decide (v.s = []) else if v.kind = 1 then (decide (v.n = 0) || decide (v.n = 1)) && decide (v.s = []) else if v.kind = 2 then decide (v.s = [])
 else if v.kind = 3 then decide (v.n = 0) && decide (v.s.length ≤ 64) else false
def Val.May (v : Val) : Prop := (v.kind = 0 ∧ v.n = 0 ∧ v.s = []) ∨ (v.kind = 1 ∧ (v.n = 0 ∨ v.n = 1) ∧ v.s = []) ∨ (v.kind = 2 ∧ v.s = []) ∨ (v.kind = 3 ∧ v.n = 0 ∧ v.s.length ≤ 64)
instance (v : Val) : Decidable v.May := by unfold Val.May; infer_instance
theorem mayV_iff (v : Val) : mayV v = true ↔ v.May := by
 unfold mayV Val.May;by_cases h0 : v.kind = 0
 ·simp [h0]
 ·by_cases h1 : v.kind = 1
  ·simp [h1]
  ·by_cases h2 : v.kind = 2
   ·simp [h2]
   ·by_cases h3 : v.kind = 3
    ·simp [h3]
    ·simp [h0, h1, h2, h3]
def intL (n : Int) : List UInt8 := if n < 0 then 45 :: digL n.natAbs else digL n.toNat
def showL (v : Val) : List UInt8 := if v.May then (if v.kind = 1 then (if v.n = 1 then wTRUE else wFALSE) else if v.kind = 2 then intL v.n else if v.kind = 3 then 39 :: dbl v.s ++ [39] else wNULL) else []
def Ex.zero : Ex := .mk 0 [] .zero []
structure Itm where
 kind : Int
 e : Ex
structure Asn where
 name : List UInt8
 e : Ex
structure Stm where
 kind : Int
 table : List UInt8
 items : List Itm
 rows : List (List Ex)
 sets : List Asn
 filt : Bool
 cond : Ex
 order : List UInt8
 down : Bool
 limit : Int
structure LotM where
 mode : Int
 n : Int
 stmts : List Stm
def Stm.zero : Stm := ⟨0, [], [], [], [], false, .zero, [], false, 0⟩
def LotM.zero : LotM := ⟨0, 0, []⟩
mutual
def sameE : Ex → Ex → Bool
 | .mk k s v l, .mk k' s' v' l' => decide (k = k') && decide (s = s') && decide (v = v') && sameEs l l'
def sameEs : List Ex → List Ex → Bool
 | [], [] => true
 | a :: l, b :: l' => sameE a b && sameEs l l'
 | _, _ => false
end
def sameBy {α : Type} (f : α → α → Bool) : List α → List α → Bool
 | [], [] => true
 | a :: l, b :: l' => f a b && sameBy f l l'
 | _, _ => false
def sameI (x y : Itm) : Bool := decide (x.kind = y.kind) && sameE x.e y.e
def sameA (x y : Asn) : Bool := decide (x.name = y.name) && sameE x.e y.e
def sameS (a b : Stm) : Bool :=
 decide (a.kind = b.kind) && decide (a.table = b.table) && decide (a.filt = b.filt) && decide (a.order = b.order) && decide (a.down = b.down) && decide (a.limit = b.limit) && sameE a.cond b.cond &&
  sameBy sameI a.items b.items && sameBy sameEs a.rows b.rows && sameBy sameA a.sets b.sets
def sameLot (a b : LotM) : Bool := decide (a.mode = b.mode) && decide (a.n = b.n) && sameBy sameS a.stmts b.stmts
def argsN (s : List UInt8) : Int :=
 if s = wNOT ∨ s = wISNULL ∨ s = wNOTNULL ∨ s = wNEG then 1
 else if s = wOR ∨ s = wAND ∨ s = [61] ∨ s = [60, 62] ∨ s = [60] ∨ s = [60, 61] ∨ s = [62] ∨ s = [62, 61] ∨ s = [43] ∨ s = [45] ∨ s = [42] ∨ s = [47] ∨ s = [37] then 2 else -1
mutual
def mayE : Ex → Nat → Bool
 | .mk k s v l, n =>
  if n = 0 then false
  else if k = 1 then decide (s = []) && decide (l.length = 0) && mayV v && decide (0 ≤ v.n)
  else if k = 2 then decide (v = .zero) && decide (l.length = 0) && wordF s
  else decide (k = 3) && decide (v = .zero) && decide ((l.length : Int) = argsN s) && mayEs l (n - 1)
def mayEs : List Ex → Nat → Bool
 | [], _ => true
 | a :: l, n => mayE a n && mayEs l n
end
def blankE (e : Ex) : Bool := sameE e .zero
def mayI (m : Nat) (x : Itm) : Bool :=
 if x.kind = 1 then decide (m ≤ 1) && blankE x.e else if x.kind = 3 then blankE x.e else if x.kind = 2 ∨ x.kind = 4 then mayE x.e 16 else false
def mayIs (l : List Itm) : Bool := l.all (mayI l.length) && decide (1 ≤ l.length) && decide (l.length ≤ 6)
def mayRow (r : List Ex) : Bool := decide (1 ≤ r.length) && decide (r.length ≤ 6) && r.all fun e => mayE e 16
def mayRows (l : List (List Ex)) : Bool := l.all mayRow && decide (1 ≤ l.length) && decide (l.length ≤ 16)
def maySets (l : List Asn) : Bool := decide (1 ≤ l.length) && decide (l.length ≤ 6) && l.all fun x => wordF x.name && mayE x.e 16
def mayS (s : Stm) : Bool :=
 wordF s.table && (if s.filt then mayE s.cond 16 else blankE s.cond) &&
  (decide (s.kind = 1) || (decide (s.items = []) && decide (s.order = []) && !s.down && decide (s.limit = 0))) && (decide (s.kind = 2) || decide (s.rows = [])) && (decide (s.kind = 3) || decide (s.sets = [])) &&
  (if s.kind = 1 then mayIs s.items && ((decide (s.order = []) && !s.down) || wordF s.order) && decide (-1 ≤ s.limit)
   else if s.kind = 2 then mayRows s.rows && !s.filt else if s.kind = 3 then maySets s.sets else decide (s.kind = 4))
def mayLot (l : LotM) : Bool := decide (0 ≤ l.mode) && decide (l.mode ≤ 2) && decide (0 ≤ l.n) && (decide (l.mode ≠ 0) || decide (l.n = 0)) && decide (1 ≤ l.stmts.length) && decide (l.stmts.length ≤ 8) && l.stmts.all mayS
def joinT (sep : List UInt8) : List (List UInt8) → List UInt8
 | [] => []
 | [a] => a
 | a :: l => a ++ sep ++ joinT sep l
def showOp (k : Int) (s : List UInt8) (v : Val) (ts : List (List UInt8)) : List UInt8 :=
 if k = 1 then showL v else if k = 2 then s else
 match ts with
 | a :: r => if s = wISNULL then 40 :: a ++ [32, 73, 83, 32, 78, 85, 76, 76, 41] else if s = wNOTNULL then 40 :: a ++ [32, 73, 83, 32, 78, 79, 84, 32, 78, 85, 76, 76, 41] else if s = wNOT then [40, 78, 79, 84, 32] ++ a ++ [41] else if s = wNEG then [40, 45, 32] ++ a ++ [41]
  else match r with
   | b :: _ => 40 :: a ++ 32 :: s ++ 32 :: b ++ [41]
   | [] => []
 | [] => []
mutual
def showE : Ex → List UInt8
 | .mk k s v l => showOp k s v (showLs l)
def showLs : List Ex → List (List UInt8)
 | [] => []
 | a :: l => showE a :: showLs l
end
def showI (x : Itm) : List UInt8 := if x.kind = 1 then [42] else if x.kind = 3 then [67, 79, 85, 78, 84, 32, 40, 42, 41] else if x.kind = 4 then [83, 85, 77, 32, 40] ++ showE x.e ++ [41] else showE x.e
def showA (x : Asn) : List UInt8 := x.name ++ [32, 61, 32] ++ showE x.e
def showR (r : List Ex) : List UInt8 := 40 :: joinT [44, 32] (r.map showE) ++ [41]
def headS (s : Stm) : List UInt8 :=
 if s.kind = 1 then [83, 69, 76, 69, 67, 84, 32] ++ joinT [44, 32] (s.items.map showI) ++ [32, 70, 82, 79, 77, 32] ++ s.table
 else if s.kind = 2 then [73, 78, 83, 69, 82, 84, 32, 73, 78, 84, 79, 32] ++ s.table ++ [32, 86, 65, 76, 85, 69, 83, 32] ++ joinT [44, 32] (s.rows.map showR)
 else if s.kind = 3 then [85, 80, 68, 65, 84, 69, 32] ++ s.table ++ [32, 83, 69, 84, 32] ++ joinT [44, 32] (s.sets.map showA)
 else [68, 69, 76, 69, 84, 69, 32, 70, 82, 79, 77, 32] ++ s.table
def tailS (s : Stm) : List UInt8 :=
 (if s.filt then [32, 87, 72, 69, 82, 69, 32] ++ showE s.cond else []) ++ (if s.order = [] then [] else [32, 79, 82, 68, 69, 82, 32, 66, 89, 32] ++ s.order) ++ (if s.down then [32, 68, 69, 83, 67] else []) ++ (if s.kind = 1 ∧ 0 ≤ s.limit then [32, 76, 73, 77, 73, 84, 32] ++ intL s.limit else [])
def showS (s : Stm) : List UInt8 := headS s ++ tailS s
def modeT (l : LotM) : List UInt8 := if l.mode = 1 then [32, 65, 83, 32, 79, 70, 32, 83, 89, 83, 84, 69, 77, 32, 84, 73, 77, 69, 32] ++ intL l.n else if l.mode = 2 then [32, 65, 83, 32, 79, 70, 32, 83, 89, 83, 84, 69, 77, 32, 84, 73, 77, 69, 32, 66, 79, 85, 78, 68, 32] ++ intL l.n else []
def lotT (l : LotM) : List UInt8 := joinT [59, 32] (l.stmts.map showS) ++ modeT l
def printF (l : LotM) : List UInt8 × Nat := if mayLot l = true ∧ (lotT l).length ≤ 2000 then (lotT l, 0) else ([], 9)
abbrev PT := Nat × Tok
def tE : Tok := ⟨0, [], 0⟩
def hdT (l : List PT) : PT := l.headD (0, tE)
def isT (s : List UInt8) (l : List PT) : Bool := (decide ((hdT l).2.kind = 1) || decide ((hdT l).2.kind = 4)) && decide ((hdT l).2.s = s)
def namedT (l : List PT) : Bool := decide ((hdT l).2.kind = 1) && wordF (hdT l).2.s
def beginsT (ss : List (List UInt8)) (l : List PT) : Bool := ss.any fun s => isT s l
abbrev PE := Nat × Nat
abbrev PR (α : Type) := Except PE (α × List PT)
def wrongT {α : Type} (e : Nat) (l : List PT) : PR α := .error ((hdT l).1, e)
def thenT {α β : Type} (x : PR α) (f : α → List PT → PR β) : PR β := match x with
 | .error e => .error e
 | .ok (a, l) => f a l
def mustT : List (List UInt8) → List PT → PR Unit
 | [], l => .ok ((), l)
 | s :: r, l => if isT s l then mustT r l.tail else wrongT 13 l
def nameT (l : List PT) : PR (List UInt8) := if namedT l then .ok ((hdT l).2.s, l.tail) else wrongT 13 l
def intT (l : List PT) : PR Nat := if (hdT l).2.kind = 2 then .ok ((hdT l).2.n, l.tail) else wrongT 13 l
/-- An expression, and how deep it is. -/
structure Dp where
 e : Ex
 n : Nat
def deepOf : List Dp → Nat
 | [] => 0
 | a :: l => max a.n (deepOf l)
def opT (pl : Nat) (s : List UInt8) (args : List Dp) (l : List PT) : PR Dp :=
 if 16 < deepOf args + 1 then .error (pl, 3) else .ok (⟨.mk 3 s .zero (args.map (·.e)), deepOf args + 1⟩, l)
inductive Rl where
 | or | and | not | cmp | sum | prod | unary
def chainT (f : List PT → PR Dp) (signs : List (List UInt8)) : Nat → Dp → List PT → PR Dp
 | 0, d, l => .ok (d, l)
 | k + 1, d, l => if beginsT signs l then thenT (f l.tail) fun d2 l2 => thenT (opT (hdT l).1 (hdT l).2.s [d, d2] l2) fun d3 l3 => chainT f signs k d3 l3 else .ok (d, l)
def runT (f : List PT → PR Dp) (signs : List (List UInt8)) (l : List PT) : PR Dp := thenT (f l) fun d l1 => chainT f signs l1.length d l1
def cmpsT : List (List UInt8) := [[61], [60, 62], [60], [60, 61], [62], [62, 61]]
def leafV (v : Val) : Dp := ⟨.mk 1 [] v [], 1⟩
def stepT (f : Rl → List PT → PR Dp) : Rl → List PT → PR Dp
 | .or, l => runT (f .and) [wOR] l
 | .and, l => runT (f .not) [wAND] l
 | .not, l => if isT wNOT l then thenT (f .not l.tail) fun d l1 => opT (hdT l).1 wNOT [d] l1 else f .cmp l
 | .cmp, l => thenT (f .sum l) fun d l1 =>
  if beginsT cmpsT l1 then thenT (f .sum l1.tail) fun d2 l2 => opT (hdT l1).1 (hdT l1).2.s [d, d2] l2
  else if isT wIS l1 then
   if isT wNOT l1.tail then thenT (mustT [wNULL] l1.tail.tail) fun _ l2 => opT (hdT l1).1 wNOTNULL [d] l2
   else thenT (mustT [wNULL] l1.tail) fun _ l2 => opT (hdT l1).1 wISNULL [d] l2
  else .ok (d, l1)
 | .sum, l => runT (f .prod) [[43], [45]] l
 | .prod, l => runT (f .unary) [[42], [47], [37]] l
 | .unary, l =>
  if isT [45] l then thenT (f .unary l.tail) fun d l1 => opT (hdT l).1 wNEG [d] l1
  else if isT [40] l then thenT (f .or l.tail) fun d l1 => thenT (mustT [[41]] l1) fun _ l2 => .ok (d, l2)
  else if (hdT l).2.kind = 2 then .ok (leafV ⟨2, (hdT l).2.n, []⟩, l.tail)
  else if (hdT l).2.kind = 3 then .ok (leafV ⟨3, 0, (hdT l).2.s⟩, l.tail)
  else if isT wTRUE l then .ok (leafV ⟨1, 1, []⟩, l.tail)
  else if isT wFALSE l then .ok (leafV ⟨1, 0, []⟩, l.tail)
  else if isT wNULL l then .ok (leafV ⟨0, 0, []⟩, l.tail)
  else thenT (nameT l) fun s l1 => .ok (⟨.mk 2 s .zero [], 1⟩, l1)
def ruleT : Nat → Rl → List PT → PR Dp
 | 0, _, l => wrongT 3 l
 | n + 1, r, l => stepT (ruleT n) r l
def exprT (l : List PT) : PR Ex := thenT (ruleT 200 .or l) fun d l1 => .ok (d.e, l1)
def leadsT (l : List PT) : Bool := decide ((hdT l).2.kind = 2) || decide ((hdT l).2.kind = 3) || namedT l || beginsT [wNOT, [45], [40], wTRUE, wFALSE, wNULL] l
/-- More of a list, behind commas (or semicolons). -/
def sepT {α : Type} (sep : List PT → Bool) (item : List PT → PR α) (begins : List PT → Bool) (most : Nat) : Nat → List α → List PT → PR (List α)
 | 0, acc, l => .ok (acc, l)
 | k + 1, acc, l => if sep l then (if begins l.tail && decide (acc.length = most) then wrongT 3 l.tail else thenT (item l.tail) fun a l1 => sepT sep item begins most k (acc ++ [a]) l1) else .ok (acc, l)
def listT {α : Type} (item : List PT → PR α) (begins : List PT → Bool) (most : Nat) (l : List PT) : PR (List α) := thenT (item l) fun a l1 => sepT (isT [44]) item begins most l1.length [a] l1
def rowT (l : List PT) : PR (List Ex) := thenT (mustT [[40]] l) fun _ l1 => thenT (listT exprT leadsT 6 l1) fun r l2 => thenT (mustT [[41]] l2) fun _ l3 => .ok (r, l3)
def assignT (l : List PT) : PR Asn := thenT (nameT l) fun s l1 => thenT (mustT [[61]] l1) fun _ l2 => thenT (exprT l2) fun e l3 => .ok (⟨s, e⟩, l3)
def whereT (s : Stm) (l : List PT) : PR Stm := if isT wWHERE l then thenT (exprT l.tail) fun e l1 => .ok ({ s with filt := true, cond := e }, l1) else .ok (s, l)
def itemT (l : List PT) : PR Itm :=
 if isT wCOUNT l then thenT (mustT [[40], [42], [41]] l.tail) fun _ l1 => .ok (⟨3, .zero⟩, l1)
 else if isT wSUM l then thenT (mustT [[40]] l.tail) fun _ l1 => thenT (exprT l1) fun e l2 => thenT (mustT [[41]] l2) fun _ l3 => .ok (⟨4, e⟩, l3)
 else thenT (exprT l) fun e l1 => .ok (⟨2, e⟩, l1)
def itemsT (l : List PT) : PR (List Itm) := if isT [42] l then .ok ([⟨1, .zero⟩], l.tail) else listT itemT (fun l => leadsT l || beginsT [wCOUNT, wSUM] l) 6 l
def orderT (s : Stm) (l : List PT) : PR Stm :=
 if isT wORDER l then thenT (mustT [wBY] l.tail) fun _ l1 => thenT (nameT l1) fun o l2 =>
  if isT wDESC l2 then .ok ({ s with order := o, down := true }, l2.tail) else .ok ({ s with order := o, down := false }, if isT wASC l2 then l2.tail else l2)
 else .ok (s, l)
def limitT (s : Stm) (l : List PT) : PR Stm := if isT wLIMIT l then thenT (intT l.tail) fun n l1 => .ok ({ s with limit := n }, l1) else .ok (s, l)
def chooseT (l : List PT) : PR Stm := thenT (itemsT l) fun is l1 => thenT (mustT [wFROM] l1) fun _ l2 => thenT (nameT l2) fun t l3 =>
 thenT (whereT { Stm.zero with kind := 1, limit := -1, items := is, table := t } l3) fun s l4 => thenT (orderT s l4) fun s l5 => limitT s l5
def insertT (l : List PT) : PR Stm := thenT (mustT [wINTO] l) fun _ l1 => thenT (nameT l1) fun t l2 => thenT (mustT [wVALUES] l2) fun _ l3 => thenT (listT rowT (isT [40]) 16 l3) fun rs l4 =>
 .ok ({ Stm.zero with kind := 2, table := t, rows := rs }, l4)
def updateT (l : List PT) : PR Stm := thenT (nameT l) fun t l1 => thenT (mustT [wSET] l1) fun _ l2 => thenT (listT assignT namedT 6 l2) fun ss l3 => whereT { Stm.zero with kind := 3, table := t, sets := ss } l3
def deleteT (l : List PT) : PR Stm := thenT (mustT [wDELETE, wFROM] l) fun _ l1 => thenT (nameT l1) fun t l2 => whereT { Stm.zero with kind := 4, table := t } l2
def stmtT (l : List PT) : PR Stm := if isT wSELECT l then chooseT l.tail else if isT wINSERT l then insertT l.tail else if isT wUPDATE l then updateT l.tail else deleteT l
def startsT (l : List PT) : Bool := beginsT [wSELECT, wINSERT, wUPDATE, wDELETE] l
def stmtsT : Nat → List Stm → List PT → PR (List Stm)
 | 0, acc, l => .ok (acc, l)
 | k + 1, acc, l => if isT [59] l then (if startsT l.tail then (if acc.length = 8 then wrongT 3 l.tail else thenT (stmtT l.tail) fun a l1 => stmtsT k (acc ++ [a]) l1) else .ok (acc, l.tail)) else .ok (acc, l)
def asofT (ss : List Stm) (l : List PT) : PR LotM :=
 if isT wAS l then thenT (mustT [wOF, wSYSTEM, wTIME] l.tail) fun _ l1 =>
  if isT wBOUND l1 then thenT (intT l1.tail) fun n l2 => .ok (⟨2, n, ss⟩, l2) else thenT (intT l1) fun n l2 => .ok (⟨1, n, ss⟩, l2)
 else .ok (⟨0, 0, ss⟩, l)
def lotP (l : List PT) : PR LotM := thenT (stmtT l) fun s l1 => thenT (stmtsT l1.length [s] l1) fun ss l2 => thenT (asofT ss l2) fun t l3 => if (hdT l3).2.kind = 0 then .ok (t, l3) else wrongT 13 l3
/-- Which lot a text is, or where and why it is none. -/
def parseF (s : List UInt8) : LotM × Nat × Nat :=
 if (lexF s).1 = 0 then (match lotP (lexF s).2 with
  | .error (pl, e) => (.zero, pl, e)
  | .ok (l, _) => (l, 0, 0)) else (.zero, 0, (lexF s).1)
theorem hdT_cons (x : PT) (l : List PT) : hdT (x :: l) = x := rfl
theorem thenT_ok {α β : Type} (a : α) (l : List PT) (f : α → List PT → PR β) : thenT (.ok (a, l)) f = f a l := rfl
theorem thenT_inv {α β : Type} {x : PR α} {f : α → List PT → PR β} {b : β} {l : List PT} (h : thenT x f = .ok (b, l)) : ∃ a l1, x = .ok (a, l1) ∧ f a l1 = .ok (b, l) := by
 cases x with
 | error e => cases h
 | ok p => exact ⟨p.1, p.2, rfl, h⟩
/-- Tokens that end as they should. -/
def EndOk (l : List PT) : Prop := ∃ (pre : List PT) (p : Nat), l = pre ++ [(p, tE)]
theorem EndOk.ne {l : List PT} (h : EndOk l) : l ≠ [] := by
 obtain ⟨pre, p, rfl⟩ := h;simp
theorem EndOk.pos {l : List PT} (h : EndOk l) : 0 < l.length := List.length_pos_iff.2 h.ne
theorem EndOk.tail {l : List PT} (h : EndOk l) (hk : (hdT l).2.kind ≠ 0) : EndOk l.tail ∧ l.tail.length + 1 = l.length := by
 obtain ⟨pre, p, rfl⟩ := h;cases pre with
 | nil => exact absurd rfl hk
 | cons x pre => exact ⟨⟨pre, p, rfl⟩, by simp⟩
theorem isT_kind {s : List UInt8} {l : List PT} (h : isT s l = true) : (hdT l).2.kind ≠ 0 := by
 unfold isT at h;intro h0;simp [h0] at h
theorem namedT_kind {l : List PT} (h : namedT l = true) : (hdT l).2.kind ≠ 0 := by
 unfold namedT at h;intro h0;simp [h0] at h
theorem begins_kind {ss : List (List UInt8)} {l : List PT} (h : beginsT ss l = true) : (hdT l).2.kind ≠ 0 := by
 unfold beginsT at h;obtain ⟨s, _, hs⟩ := List.any_eq_true.1 h;exact isT_kind hs
/-- What a part leaves ends as it should, and is no longer. -/
def Fit {α : Type} (l : List PT) (x : PR α) : Prop := ∀ a l', x = .ok (a, l') → EndOk l' ∧ l'.length ≤ l.length
section
variable {α β : Type} {l l' : List PT}
theorem Fit.ok {a : α} (h : EndOk l') (hl : l'.length ≤ l.length) : Fit l (.ok (a, l') : PR α) := by
 rintro b m ⟨⟩;exact ⟨h, hl⟩
theorem Fit.err {e : PE} : Fit l (.error e : PR α) := by rintro b m ⟨⟩
theorem Fit.wrong {e : Nat} {m : List PT} : Fit l (wrongT e m : PR α) := Fit.err
theorem Fit.mono {x : PR α} (h : Fit l x) (hl : l.length ≤ l'.length) : Fit l' x := fun a m e => ⟨(h a m e).1, Nat.le_trans (h a m e).2 hl⟩
theorem Fit.then_ {x : PR α} {f : α → List PT → PR β} (hx : Fit l x) (hf : ∀ a m, EndOk m → m.length ≤ l.length → Fit l (f a m)) : Fit l (thenT x f) := by
 intro b m h;obtain ⟨a, l1, h1, h2⟩ := thenT_inv h;obtain ⟨h3, h4⟩ := hx a l1 h1;exact hf a l1 h3 h4 b m h2
theorem Fit.tail {x : PR α} (h : EndOk l) (hk : (hdT l).2.kind ≠ 0) (hx : EndOk l.tail → Fit l.tail x) : Fit l x := by
 obtain ⟨h1, h2⟩ := h.tail hk;exact (hx h1).mono (by omega)
theorem Fit.tok {a : α} (h : EndOk l) (hk : (hdT l).2.kind ≠ 0) : Fit l (.ok (a, l.tail) : PR α) := by
 obtain ⟨h1, h2⟩ := h.tail hk;exact Fit.ok h1 (by omega)
end
theorem must_fit : ∀ (ss : List (List UInt8)) (l : List PT), EndOk l → Fit l (mustT ss l)
 | [], l, h => Fit.ok h (Nat.le_refl _)
 | s :: r, l, h => by
  unfold mustT;by_cases hs : isT s l = true
  ·rw [if_pos hs];exact Fit.tail h (isT_kind hs) fun h1 => must_fit r _ h1
  ·rw [if_neg hs]; exact Fit.wrong
theorem name_fit (l : List PT) (h : EndOk l) : Fit l (nameT l) := by
 unfold nameT;split
 ·rename_i hs; exact Fit.tok h (namedT_kind hs)
 ·exact Fit.wrong
theorem int_fit (l : List PT) (h : EndOk l) : Fit l (intT l) := by
 unfold intT;split
 ·rename_i hs; exact Fit.tok h (by omega)
 ·exact Fit.wrong
theorem op_fit (pl : Nat) (s : List UInt8) (args : List Dp) (l m : List PT) (h : EndOk m) (hl : m.length ≤ l.length) : Fit l (opT pl s args m) := by
 unfold opT;split
 ·exact Fit.err
 ·exact Fit.ok h hl
theorem chain_fit {f : List PT → PR Dp} (hf : ∀ l, EndOk l → Fit l (f l)) (signs : List (List UInt8)) : ∀ (k : Nat) (d : Dp) (l : List PT), EndOk l → Fit l (chainT f signs k d l)
 | 0, d, l, h => Fit.ok h (Nat.le_refl _)
 | k + 1, d, l, h => by
  unfold chainT;split
  ·rename_i hs;refine Fit.tail h (begins_kind hs) fun h1 => Fit.then_ (hf _ h1) fun d2 l2 h2 hl2 => Fit.then_ (op_fit _ _ _ _ _ h2 hl2) fun d3 l3 h3 hl3 => (chain_fit hf signs k d3 l3 h3).mono hl3
  ·exact Fit.ok h (Nat.le_refl _)
theorem run_fit {f : List PT → PR Dp} (hf : ∀ l, EndOk l → Fit l (f l)) (signs : List (List UInt8)) (l : List PT) (h : EndOk l) : Fit l (runT f signs l) :=
 Fit.then_ (hf l h) fun d l1 h1 hl1 => (chain_fit hf signs _ d l1 h1).mono hl1
theorem step_fit {f : Rl → List PT → PR Dp} (hf : ∀ r l, EndOk l → Fit l (f r l)) (r : Rl) (l : List PT) (h : EndOk l) : Fit l (stepT f r l) := by
 cases r with
 | or => exact run_fit (hf _) _ l h
 | and => exact run_fit (hf _) _ l h
 | sum => exact run_fit (hf _) _ l h
 | prod => exact run_fit (hf _) _ l h
 | not =>
  simp only [stepT];split
  ·rename_i hs;exact Fit.tail h (isT_kind hs) fun h1 => Fit.then_ (hf _ _ h1) fun d l1 h2 hl => op_fit _ _ _ _ _ h2 hl
  ·exact hf _ _ h
 | cmp =>
  simp only [stepT];refine Fit.then_ (hf _ _ h) fun d l1 h1 hl1 => ?_
  split
  ·rename_i hs;obtain ⟨h2, h3⟩ := h1.tail (begins_kind hs);exact (Fit.then_ (hf _ _ h2) fun d2 l2 h4 hl2 => op_fit _ _ _ _ _ h4 hl2).mono (by omega)
  ·split
   ·rename_i hs;obtain ⟨h2, h3⟩ := h1.tail (isT_kind hs);split
    ·rename_i hn;obtain ⟨h4, h5⟩ := h2.tail (isT_kind hn);exact (Fit.then_ (must_fit _ _ h4) fun _ l2 h6 hl2 => op_fit _ _ _ _ _ h6 hl2).mono (by omega)
    ·exact (Fit.then_ (must_fit _ _ h2) fun _ l2 h6 hl2 => op_fit _ _ _ _ _ h6 hl2).mono (by omega)
   ·exact Fit.ok h1 hl1
 | unary =>
  simp only [stepT];split
  ·rename_i hs;exact Fit.tail h (isT_kind hs) fun h1 => Fit.then_ (hf _ _ h1) fun d l1 h2 hl => op_fit _ _ _ _ _ h2 hl
  ·split
   ·rename_i hs;exact Fit.tail h (isT_kind hs) fun h1 => Fit.then_ (hf _ _ h1) fun d l1 h2 hl => Fit.then_ ((must_fit _ _ h2).mono hl) fun _ l2 h3 hl2 => Fit.ok h3 hl2
   ·split
    ·rename_i hs; exact Fit.tok h (by omega)
    ·split
     ·rename_i hs; exact Fit.tok h (by omega)
     ·split
      ·rename_i hs; exact Fit.tok h (isT_kind hs)
      ·split
       ·rename_i hs; exact Fit.tok h (isT_kind hs)
       ·split
        ·rename_i hs; exact Fit.tok h (isT_kind hs)
        ·exact Fit.then_ (name_fit _ h) fun s l1 h1 hl => Fit.ok h1 hl
theorem rule_fit : ∀ (n : Nat) (r : Rl) (l : List PT), EndOk l → Fit l (ruleT n r l)
 | 0, r, l, h => Fit.wrong
 | n + 1, r, l, h => step_fit (rule_fit n) r l h
theorem expr_fit (l : List PT) (h : EndOk l) : Fit l (exprT l) := Fit.then_ (rule_fit _ _ _ h) fun d l1 h1 hl => Fit.ok h1 hl
theorem sep_fit {α : Type} {sep : List PT → Bool} {item : List PT → PR α} (hs : ∀ l, sep l = true → (hdT l).2.kind ≠ 0) (hi : ∀ l, EndOk l → Fit l (item l)) (begins : List PT → Bool) (most : Nat) : ∀ (k : Nat) (acc : List α) (l : List PT), EndOk l → Fit l (sepT sep item begins most k acc l)
 | 0, acc, l, h => Fit.ok h (Nat.le_refl _)
 | k + 1, acc, l, h => by
  unfold sepT;split
  ·rename_i h0;split
   ·exact Fit.wrong
   ·exact Fit.tail h (hs _ h0) fun h1 => Fit.then_ (hi _ h1) fun a l1 h2 hl => (sep_fit hs hi begins most k _ l1 h2).mono hl
  ·exact Fit.ok h (Nat.le_refl _)
theorem list_fit {α : Type} {item : List PT → PR α} (hi : ∀ l, EndOk l → Fit l (item l)) (begins : List PT → Bool) (most : Nat) (l : List PT) (h : EndOk l) : Fit l (listT item begins most l) :=
 Fit.then_ (hi l h) fun a l1 h1 hl => (sep_fit (fun l h => isT_kind h) hi begins most _ _ l1 h1).mono hl
theorem row_fit (l : List PT) (h : EndOk l) : Fit l (rowT l) :=
 Fit.then_ (must_fit _ _ h) fun _ l1 h1 hl1 => Fit.then_ ((list_fit expr_fit _ _ _ h1).mono hl1) fun r l2 h2 hl2 => Fit.then_ ((must_fit _ _ h2).mono hl2) fun _ l3 h3 hl3 => Fit.ok h3 hl3
theorem assign_fit (l : List PT) (h : EndOk l) : Fit l (assignT l) :=
 Fit.then_ (name_fit _ h) fun s l1 h1 hl1 => Fit.then_ ((must_fit _ _ h1).mono hl1) fun _ l2 h2 hl2 => Fit.then_ ((expr_fit _ h2).mono hl2) fun e l3 h3 hl3 => Fit.ok h3 hl3
theorem where_fit (s : Stm) (l : List PT) (h : EndOk l) : Fit l (whereT s l) := by
 unfold whereT;split
 ·rename_i hs;exact Fit.tail h (isT_kind hs) fun h1 => Fit.then_ (expr_fit _ h1) fun e l1 h2 hl => Fit.ok h2 hl
 ·exact Fit.ok h (Nat.le_refl _)
theorem item_fit (l : List PT) (h : EndOk l) : Fit l (itemT l) := by
 unfold itemT;split
 ·rename_i hs;exact Fit.tail h (isT_kind hs) fun h1 => Fit.then_ (must_fit _ _ h1) fun e l1 h2 hl => Fit.ok h2 hl
 ·split
  ·rename_i hs;exact Fit.tail h (isT_kind hs) fun h1 => Fit.then_ (must_fit _ _ h1) fun _ l1 h2 hl => Fit.then_ ((expr_fit _ h2).mono hl) fun e l2 h3 hl2 => Fit.then_ ((must_fit _ _ h3).mono hl2) fun _ l3 h4 hl3 => Fit.ok h4 hl3
  ·exact Fit.then_ (expr_fit _ h) fun e l1 h1 hl => Fit.ok h1 hl
theorem items_fit (l : List PT) (h : EndOk l) : Fit l (itemsT l) := by
 unfold itemsT;split
 ·rename_i hs; exact Fit.tok h (isT_kind hs)
 ·exact list_fit item_fit _ _ l h
theorem order_fit (s : Stm) (l : List PT) (h : EndOk l) : Fit l (orderT s l) := by
 unfold orderT;split
 ·rename_i hs;refine Fit.tail h (isT_kind hs) fun h1 => Fit.then_ (must_fit _ _ h1) fun _ l1 h2 hl => Fit.then_ ((name_fit _ h2).mono hl) fun o l2 h3 hl2 => ?_
  split
  ·rename_i hd;obtain ⟨h4, h5⟩ := h3.tail (isT_kind hd);exact Fit.ok h4 (by omega)
  ·split
   ·rename_i hd;obtain ⟨h4, h5⟩ := h3.tail (isT_kind hd);exact Fit.ok h4 (by omega)
   ·exact Fit.ok h3 hl2
 ·exact Fit.ok h (Nat.le_refl _)
theorem limit_fit (s : Stm) (l : List PT) (h : EndOk l) : Fit l (limitT s l) := by
 unfold limitT;split
 ·rename_i hs;exact Fit.tail h (isT_kind hs) fun h1 => Fit.then_ (int_fit _ h1) fun e l1 h2 hl => Fit.ok h2 hl
 ·exact Fit.ok h (Nat.le_refl _)
theorem choose_fit (l : List PT) (h : EndOk l) : Fit l (chooseT l) :=
 Fit.then_ (items_fit _ h) fun is l1 h1 hl1 => Fit.then_ ((must_fit _ _ h1).mono hl1) fun _ l2 h2 hl2 => Fit.then_ ((name_fit _ h2).mono hl2) fun t l3 h3 hl3 =>
  Fit.then_ ((where_fit _ _ h3).mono hl3) fun s l4 h4 hl4 => Fit.then_ ((order_fit _ _ h4).mono hl4) fun s l5 h5 hl5 => (limit_fit _ _ h5).mono hl5
theorem insert_fit (l : List PT) (h : EndOk l) : Fit l (insertT l) :=
 Fit.then_ (must_fit _ _ h) fun _ l1 h1 hl1 => Fit.then_ ((name_fit _ h1).mono hl1) fun t l2 h2 hl2 => Fit.then_ ((must_fit _ _ h2).mono hl2) fun _ l3 h3 hl3 => Fit.then_ ((list_fit row_fit _ _ _ h3).mono hl3) fun rs l4 h4 hl4 => Fit.ok h4 hl4
theorem update_fit (l : List PT) (h : EndOk l) : Fit l (updateT l) :=
 Fit.then_ (name_fit _ h) fun t l1 h1 hl1 => Fit.then_ ((must_fit _ _ h1).mono hl1) fun _ l2 h2 hl2 => Fit.then_ ((list_fit assign_fit _ _ _ h2).mono hl2) fun ss l3 h3 hl3 => (where_fit _ _ h3).mono hl3
theorem delete_fit (l : List PT) (h : EndOk l) : Fit l (deleteT l) :=
 Fit.then_ (must_fit _ _ h) fun _ l1 h1 hl1 => Fit.then_ ((name_fit _ h1).mono hl1) fun t l2 h2 hl2 => (where_fit _ _ h2).mono hl2
theorem stmt_fit (l : List PT) (h : EndOk l) : Fit l (stmtT l) := by
 unfold stmtT;split
 ·rename_i hs; exact Fit.tail h (isT_kind hs) fun h1 => choose_fit _ h1
 ·split
  ·rename_i hs; exact Fit.tail h (isT_kind hs) fun h1 => insert_fit _ h1
  ·split
   ·rename_i hs; exact Fit.tail h (isT_kind hs) fun h1 => update_fit _ h1
   ·exact delete_fit _ h
theorem u8_or (a b : UInt8) : Go.bits .or .u8 (n8 a) (n8 b) = n8 (a ||| b) := by
  have key : ∀ c : UInt8, BitVec.ofInt 8 (c.toNat : Int) = c.toBitVec := fun c => by apply BitVec.eq_of_toNat_eq; simp
  have back : ∀ c : BitVec 8, IntKind.u8.wrap (c.toNat : Int) = ((UInt8.ofBitVec c).toNat : Int) := fun c => by
    have := c.isLt;have e : (UInt8.ofBitVec c).toNat = c.toNat := rfl;rw [e];simp [IntKind.wrap, IntKind.bits, IntKind.signed]; omega
  unfold n8;show IntKind.u8.wrap ((BitVec.ofInt 8 (a.toNat : Int) ||| BitVec.ofInt 8 (b.toNat : Int)).toNat : Int) = _;rw [key, key, back];rfl
theorem isLet_eq (c : UInt8) : isLet c = ((decide (97 ≤ n8 (c ||| 32)) && decide (n8 (c ||| 32) ≤ 122)) && decide (65 ≤ n8 c) || decide (n8 c = 95)) := by
  have := u8_all (p := fun c => isLet c == ((decide (97 ≤ n8 (c ||| 32)) && decide (n8 (c ||| 32) ≤ 122)) && decide (65 ≤ n8 c) || decide (n8 c = 95))) (by decide +kernel) c;simpa using this
theorem isDig_eq (c : UInt8) : isDig c = (decide (48 ≤ n8 c) && decide (n8 c ≤ 57)) := by
  have := u8_all (p := fun c => isDig c == (decide (48 ≤ n8 c) && decide (n8 c ≤ 57))) (by decide +kernel) c;simpa using this
theorem ret_bool {a b : Bool} (h : a = b) : Ending.returned (.bool a) = .returned (.bool b) := by rw [h]
set_option maxHeartbeats 400000 in
theorem lexletter_any (c : UInt8) (w : World) : Calls Tryz.prog 75 #[.int .u8 (n8 c)] w fun e w' => e = .returned (.bool (isLet c)) ∧ w = w' := by
  have e1 : Go.bits .or .u8 (n8 c) 32 = n8 (c ||| 32) := u8_or c 32;have H := LH (isLet_eq c);by_cases h1 : 97 ≤ n8 (c ||| 32) <;> by_cases h2 : n8 (c ||| 32) ≤ 122 <;> by_cases h3 : 65 ≤ n8 c <;> by_cases h4 : n8 c = 95
  all_goals
    have K := H.out;simp only [h1, h2, h3, h4, decide_true, decide_false, Bool.and_true, Bool.and_false, Bool.or_true, Bool.or_false, Bool.and_self, Bool.or_self, Bool.false_and] at K;rw [K];clear K H
    try have k1 : n8 (c ||| 32) < 97 := by omega
    try have k2 : 122 < n8 (c ||| 32) := by omega
    try have k3 : n8 c < 65 := by omega
    try have k4 : (n8 c == 95) = false := by simpa using h4
    first
      | (exfalso; omega)
      | (go_enter Tryz.func75, Tryz.ntmps75
         go_wp2;go_ret
         exact ⟨rfl, rfl⟩)
set_option maxHeartbeats 400000 in
theorem lexdigit_any (c : UInt8) (w : World) : Calls Tryz.prog 79 #[.int .u8 (n8 c)] w fun e w' => e = .returned (.bool (isDig c)) ∧ w = w' := by
  have H := LH (isDig_eq c);by_cases h1 : 48 ≤ n8 c <;> by_cases h2 : n8 c ≤ 57
  all_goals
    have K := H.out;simp only [h1, h2, decide_true, decide_false, Bool.and_true, Bool.and_false, Bool.and_self] at K;rw [K];clear K H;go_enter Tryz.func79, Tryz.ntmps79;go_wp2;go_ret;exact ⟨rfl, rfl⟩
set_option maxHeartbeats 400000 in
theorem lexwordy_any (c : UInt8) (w : World) : Calls Tryz.prog 77 #[.int .u8 (n8 c)] w fun e w' => e = .returned (.bool (isWordy c)) ∧ w = w' := by
  cases h1 : isLet c <;> cases h2 : isDig c
  all_goals
    have K : isWordy c = (isLet c || isDig c) := rfl;rw [K, h1, h2];clear K;have g1 := lexletter_any c w;have g2 := lexdigit_any c w;rw [h1] at g1;rw [h2] at g2;clear h1 h2;go_enter Tryz.func77, Tryz.ntmps77;go_wp2_with (first | (go_at_call 75; refine g1.mono ?_; rintro e w' ⟨rfl, rfl⟩) | (go_at_call 79; refine g2.mono ?_; rintro e w' ⟨rfl, rfl⟩));go_ret;exact ⟨rfl, rfl⟩
end Go.Proofs.YtdfojghhpdkpfaaGreatDoor
