/-
  Words, plain models, laws and walks that the claims of this layer share (joined by shake.py). No condition.
-/
import Derived.StillTail
import Derived.Test.YtdfojghhpdkpfaaGreatDoorG2
set_option linter.unusedSimpArgs false
set_option linter.unusedVariables false
namespace Go.Proofs.YtdfojghhpdkpfaaGreatDoor
open Go.RowKit
theorem flat_at {α : Type} (f : α → List Value) (n : Nat) (hf : ∀ x, (f x).length = n) : ∀ (l : List α) (i j : Nat) (h : i < l.length), j < n → (l.flatMap f)[i * n + j]? = (f l[i])[j]?
 | [], i, j, h, _ => absurd h (Nat.not_lt_zero _)
 | x :: l, 0, j, _, hj => by
  rw [List.flatMap_cons, List.getElem?_append_left (by rw [hf]; omega)];simp
 | x :: l, i + 1, j, h, hj => by
  have e : (i + 1) * n + j = n + (i * n + j) := by rw [Nat.add_mul]; omega
  rw [List.flatMap_cons, List.getElem?_append_right (by rw [hf, e]; omega), hf, e];have := flat_at f n hf l i j (by simpa using h) hj;rw [show n + (i * n + j) - n = i * n + j from by omega];simpa using this
theorem flat_len {α : Type} (f : α → List Value) (n : Nat) (hf : ∀ x, (f x).length = n) : ∀ l : List α, (l.flatMap f).length = l.length * n
 | [] => by simp
 | x :: l => by rw [List.flatMap_cons, List.length_append, hf, flat_len f n hf l, List.length_cons, Nat.add_mul]; omega
/-- A slice of structs, each of n cells, that reads as l. -/
def RowR {α : Type} (f : α → List Value) (n : Nat) (w : World) (S : Nat → Prop) (v : Value) (l : List α) : Prop :=
 ∃ A c, v = .slice A l.length c ∧ l.length ≤ c ∧ c ≤ maxLen ∧ Sl w S n A l.length (l.flatMap f)
section
variable {α : Type} {f : α → List Value} {n : Nat} {w w' : World} {S S' : Nat → Prop} {v : Value} {l : List α}
theorem RowR.keep (h : RowR f n w S v l) (hs : Same S w w') : RowR f n w' S v l := by
 obtain ⟨A, c, h1, h2, h3, h4⟩ := h;exact ⟨A, c, h1, h2, h3, h4.keep hs⟩
theorem RowR.keepAll (h : RowR f n w S v l) (hs : Same (fun _ => True) w w') : RowR f n w' S v l := h.keep (hs.mono fun _ _ _ => tv)
theorem RowR.mono (h : RowR f n w S v l) (hn : 0 < n) (hS : ∀ k, k < w.heap.size → S k → S' k) : RowR f n w S' v l := by
 obtain ⟨A, c, h1, h2, h3, h4⟩ := h;exact ⟨A, c, h1, h2, h3, h4.mono hS hn⟩
theorem RowR.at_ (h : RowR f n w S v l) (hf : ∀ x, (f x).length = n) {i : Nat} (hi : i < l.length) :
  ∃ ad c, v = .slice (some ad) l.length c ∧ l.length ≤ c ∧ c ≤ maxLen ∧ S ad.block ∧ ∀ j, j < n → w.cell? ((ad.add (i * n)).add j) = (f l[i])[j]? := by
 obtain ⟨A, c, h1, h2, h3, h4⟩ := h;obtain ⟨ad, rfl, hS, hc⟩ := h4.2 (by omega);refine ⟨ad, c, h1, h2, h3, hS, fun j hj => ?_⟩;rw [add_of_add];have := flat_at f n hf l i j hi hj;have hj' : j < (f l[i]).length := by rw [hf]; exact hj
 rw [List.getElem?_eq_getElem hj'] at this ⊢;exact hc _ _ this
theorem RowR.nil_ (w : World) (S : Nat → Prop) (A : Option Addr) (c : Nat) (hc : c ≤ maxLen) : RowR f n w S (.slice A 0 c) [] := ⟨A, c, rfl, by simp, hc, by simpa using Sl.nil w S n A⟩
end
theorem add_zero (a : Addr) : a.add 0 = a := by simp [Addr.add]
theorem addr_add (a : Addr) (j : Nat) (h : 0 < j) : a.add j = ⟨a.block, a.off + j, none⟩ := by unfold Addr.add; rw [if_neg (by omega)]
/-- A row of structs that the call owns. -/
def OwnR {α : Type} (f : α → List Value) (n : Nat) (e : TypeId) (w : World) (B : Nat) (v : Value) (l : List α) : Prop := w.ownsRow B e n v l.length (l.flatMap f)
section
variable {α : Type} {f : α → List Value} {n : Nat} {e : TypeId} {w w' : World} {B : Nat} {v : Value} {l : List α}
theorem OwnR.nil (w : World) (B : Nat) : OwnR f n e w B (.slice none 0 0) [] := World.ownsRow_nil _ _ _ _
theorem OwnR.keepAll (h : OwnR f n e w B v l) (hs : Same (fun _ => True) w w') : OwnR f n e w' B v l := own_keepAll h hs
theorem OwnR.keep {S : Nat → Prop} (h : OwnR f n e w B v l) (hs : Same S w w') (hS : ∀ k, B ≤ k → k < w.heap.size → S k) : OwnR f n e w' B v l :=
 own_keep h (hs.mono (S' := fun k => S k) fun _ _ h => h) fun k hk => hS k (own_ge h hk.symm) (h.lt k hk).2
theorem OwnR.form (h : OwnR f n e w B v l) : ∃ A c, v = .slice A l.length c ∧ l.length ≤ c ∧ c ≤ maxLen := own_cap h
theorem OwnR.lt_ (h : OwnR f n e w B v l) {k : Nat} (hk : v.ownBlock = some k) : B ≤ k ∧ k < w.heap.size := h.lt k hk
/-- One struct behind a row that the call owns: its cells were laid into a block of their own. -/
theorem wpList_appR1 {P : Program} {t : TypeId} {bytes : Nat} {z : Value} (T : SlT P t e n bytes z) (hf : ∀ x, (f x).length = n) (h1 : ∀ x, ∀ u ∈ f x, u.oneCell' = true) {w : World} {ops : Array Oper} {rest : List Oper} {o : Oper} {a : Act} {Q : Exit → Act → World → Prop} (hgd : o.guard = none) (s x : Operand)
  (ho : o.op = .call { callee := .builtin .append, args := #[s, x], argTypes := #[t, t] }) {B : Nat} {v : Value} {l : List α} {c : α}
  (hs : a.eval s = v) {g : Nat} (hx : a.eval x = .slice (some ⟨g, 0, none⟩) 1 1) (hg : g = w.heap.size) (hown : OwnR f n e w B v l) (hB : B ≤ w.heap.size) (hlen : l.length + 1 ≤ maxLen) (hbytes : (l.length + 1) * bytes ≤ 140737488355328)
  (hK : ∀ v' w', OwnR f n e w' B v' (l ++ [c]) → Same (fun k => k < B) w w' → wpList P ops Q rest (a.put o.dst v') w') : wpList P ops Q (o :: rest) a (w.alloc (.cells (f c).toArray e)) := by
 subst hg;have hs1 : Same (fun _ => True) w (w.alloc (.cells (f c).toArray e)) := SR.alloc _;have hrow := Row.new w e (f c);have hsl := hrow.sl (size := n) (off := 0) (n := 1) (by rw [hf]; omega);rw [List.drop_zero, List.take_of_length_le (by rw [hf]; omega)] at hsl;refine wpList_app T _ hgd s x ho B v l.length (l.flatMap f) hs (hown.keepAll hs1) _ _ 1 1 (f c) hx hsl (h1 c) hlen hbytes (by simp; omega) ?_;intro v' w' h2 h3 h4;refine hK v' w' ?_ ((hs1.mono fun _ _ _ => tv).trans (h3.mono fun k _ hk e' => by have := (hown.keepAll hs1).lt_ e'.symm; omega));unfold OwnR;rw [List.length_append, List.flatMap_append];simpa using h2
end
/-- A slice of structs that reads as l, in an unfrozen block of the element's type. -/
def RowW {α : Type} (f : α → List Value) (n : Nat) (e : TypeId) (w : World) (S : Nat → Prop) (v : Value) (l : List α) : Prop :=
 ∃ A c, v = .slice A l.length c ∧ l.length ≤ c ∧ c ≤ maxLen ∧ (0 < l.length → ∃ g o cur, A = some ⟨g, o, none⟩ ∧ S g ∧ w.heap[g]? = some (.cells cur e (0, 0)) ∧ ∀ j u, (l.flatMap f)[j]? = some u → cur[o + j]? = some u)
section
variable {α : Type} {f : α → List Value} {n : Nat} {e : TypeId} {w w' : World} {S S' : Nat → Prop} {v : Value} {l : List α}
theorem RowW.keep (h : RowW f n e w S v l) (hs : Same S w w') : RowW f n e w' S v l := by
 obtain ⟨A, c, h1, h2, h3, h4⟩ := h;refine ⟨A, c, h1, h2, h3, fun h0 => ?_⟩;obtain ⟨g, o, cur, e1, e2, e3, e4⟩ := h4 h0;exact ⟨g, o, cur, e1, e2, by rw [hs.block g (Array.getElem?_eq_some_iff.1 e3).1 e2]; exact e3, e4⟩
theorem RowW.mono (h : RowW f n e w S v l) (hS : ∀ k, k < w.heap.size → S k → S' k) : RowW f n e w S' v l := by
 obtain ⟨A, c, h1, h2, h3, h4⟩ := h;refine ⟨A, c, h1, h2, h3, fun h0 => ?_⟩;obtain ⟨g, o, cur, e1, e2, e3, e4⟩ := h4 h0;exact ⟨g, o, cur, e1, hS g (Array.getElem?_eq_some_iff.1 e3).1 e2, e3, e4⟩
theorem RowW.keepAll (h : RowW f n e w S v l) (hs : Same (fun _ => True) w w') : RowW f n e w' S v l := h.keep (hs.mono fun _ _ _ => tv)
theorem add_none (g o j : Nat) : (⟨g, o, none⟩ : Addr).add j = ⟨g, o + j, none⟩ := by
 by_cases h : j = 0
 ·subst h; rw [add_zero]; rfl
 ·rw [addr_add _ j (by omega)]
theorem RowW.row (h : RowW f n e w S v l) (hf : ∀ x, (f x).length = n) : RowR f n w S v l := by
 obtain ⟨A, c, h1, h2, h3, h4⟩ := h;refine ⟨A, c, h1, h2, h3, flat_len f n hf l, fun h0 => ?_⟩;obtain ⟨g, o, cur, e1, e2, e3, e4⟩ := h4 h0;refine ⟨_, e1, e2, fun j u hu => ?_⟩;rw [add_none, cell_of_row w g (o + j) _ e (0, 0) e3];exact e4 j u hu
theorem OwnR.wr {B : Nat} (h : OwnR f n e w B v l) : RowW f n e w (fun k => B ≤ k) v l := by
 rcases h.2 with ⟨rfl, h0⟩ | ⟨g, cap, cur, rfl, hB, hg, h1, h2, h3, h4⟩
 ·exact ⟨none, 0, by rw [h0], by omega, by simp [maxLen], fun hp => by omega⟩
 ·refine ⟨_, _, rfl, h1, h2, fun _ => ⟨g, 0, cur, rfl, hB, hg, fun j u hu => ?_⟩⟩;rw [← h4, List.getElem?_take] at hu;split at hu
  ·rw [Nat.zero_add, ← hu]; simp
  ·cases hu
end
def I64 (n : Int) : Prop := -9223372036854775808 ≤ n ∧ n ≤ 9223372036854775807
def BoolP (b : Bool) (w : World) (e : Ending) (w' : World) : Prop := e = .returned (.bool b) ∧ Same (fun _ => True) w w'
set_option maxHeartbeats 1000000 in
theorem exMay_any (v : Val) (w : World) : Calls Tryz.prog 100 #[valV v] w (BoolP (mayV v) w) := by
 obtain ⟨k, n, s⟩ := v;by_cases h0 : k = 0
 ·subst h0;have e : mayV ⟨0, n, s⟩ = (decide (n = 0) && decide (s = [])) := rfl;by_cases a : n = 0 <;> by_cases c : s = []
  all_goals
   have b1 : (n == 0) = decide (n = 0) := rfl;have b2 : s.isEmpty = decide (s = []) := by cases s <;> rfl
   simp only [a, c, decide_true, decide_false, Bool.and_true, Bool.true_and, Bool.and_false, Bool.false_and] at e b1 b2
   try subst a
   try subst c
   have E := LH e;clear e;go_enter Tryz.func100, Tryz.ntmps100;go_wp2;go_ret;exact ⟨by simp [E.out], SR.alloc _⟩
 ·have k0 : (k == 0) = false := by simpa using h0
  by_cases h1 : k = 1
  ·subst h1;clear k0 h0;have e : mayV ⟨1, n, s⟩ = ((decide (n = 0) || decide (n = 1)) && decide (s = [])) := rfl;by_cases a : n = 0 <;> by_cases d : n = 1 <;> by_cases c : s = []
   all_goals first | (exfalso; omega) | skip
   all_goals
    have b1 : (n == 0) = decide (n = 0) := rfl;have b3 : (n == 1) = decide (n = 1) := rfl;have b2 : s.isEmpty = decide (s = []) := by cases s <;> rfl
    simp only [a, d, c, decide_true, decide_false, Bool.and_true, Bool.true_and, Bool.and_false, Bool.false_and, Bool.or_true, Bool.true_or, Bool.or_false, Bool.or_self] at e b1 b2 b3
    try subst a
    try subst d
    try subst c
    have E := LH e;clear e;go_enter Tryz.func100, Tryz.ntmps100;go_wp2;go_ret;exact ⟨by simp [E.out], SR.alloc _⟩
  ·have k1 : (k == 1) = false := by simpa using h1
   by_cases h2 : k = 2
   ·subst h2;clear k0 h0 k1 h1;have e : mayV ⟨2, n, s⟩ = decide (s = []) := rfl;by_cases c : s = []
    all_goals
     have b2 : s.isEmpty = decide (s = []) := by cases s <;> rfl
     simp only [c, decide_true, decide_false] at e b2
     try subst c
     have E := LH e;clear e;go_enter Tryz.func100, Tryz.ntmps100;go_wp2;go_ret;exact ⟨by simp [E.out], SR.alloc _⟩
   ·have k2 : (k == 2) = false := by simpa using h2
    by_cases h3 : k = 3
    ·subst h3;clear k0 h0 k1 h1 k2 h2;have e : mayV ⟨3, n, s⟩ = (decide (n = 0) && decide (s.length ≤ 64)) := rfl;by_cases a : n = 0 <;> by_cases c : s.length ≤ 64
     all_goals
      have b1 : (n == 0) = decide (n = 0) := rfl;have hz : (str s).size = s.length := str_size s;simp only [a, c, decide_true, decide_false, Bool.and_true, Bool.true_and, Bool.and_false, Bool.false_and] at e b1
      try subst a
      have E := LH e;clear e;go_enter Tryz.func100, Tryz.ntmps100;go_wp2;go_ret;exact ⟨by rw [E.out]; simp; try omega, SR.alloc _⟩
    ·have k3 : (k == 3) = false := by simpa using h3
     have e : mayV ⟨k, n, s⟩ = false := by unfold mayV; simp [h0, h1, h2, h3]
     have E := LH e;clear e;go_enter Tryz.func100, Tryz.ntmps100;go_wp2;go_ret;exact ⟨by simp [E.out], SR.alloc _⟩
set_option maxHeartbeats 1000000 in
theorem refMay_any (v : Val) (w : World) : Calls Tryz.prog 123 #[valV v] w (BoolP (mayV v) w) := by
 obtain ⟨k, n, s⟩ := v;by_cases h0 : k = 0
 ·subst h0;have e : mayV ⟨0, n, s⟩ = (decide (n = 0) && decide (s = [])) := rfl;by_cases a : n = 0 <;> by_cases c : s = []
  all_goals
   have b1 : (n == 0) = decide (n = 0) := rfl;have b2 : s.isEmpty = decide (s = []) := by cases s <;> rfl
   simp only [a, c, decide_true, decide_false, Bool.and_true, Bool.true_and, Bool.and_false, Bool.false_and] at e b1 b2
   try subst a
   try subst c
   have E := LH e;clear e;go_enter Tryz.func123, Tryz.ntmps123;go_wp2;go_ret;exact ⟨by simp [E.out], SR.alloc _⟩
 ·have k0 : (k == 0) = false := by simpa using h0
  by_cases h1 : k = 1
  ·subst h1;clear k0 h0;have e : mayV ⟨1, n, s⟩ = ((decide (n = 0) || decide (n = 1)) && decide (s = [])) := rfl;by_cases a : n = 0 <;> by_cases d : n = 1 <;> by_cases c : s = []
   all_goals first | (exfalso; omega) | skip
   all_goals
    have b1 : (n == 0) = decide (n = 0) := rfl;have b3 : (n == 1) = decide (n = 1) := rfl;have b2 : s.isEmpty = decide (s = []) := by cases s <;> rfl
    simp only [a, d, c, decide_true, decide_false, Bool.and_true, Bool.true_and, Bool.and_false, Bool.false_and, Bool.or_true, Bool.true_or, Bool.or_false, Bool.or_self] at e b1 b2 b3
    try subst a
    try subst d
    try subst c
    have E := LH e;clear e;go_enter Tryz.func123, Tryz.ntmps123;go_wp2;go_ret;exact ⟨by simp [E.out], SR.alloc _⟩
  ·have k1 : (k == 1) = false := by simpa using h1
   by_cases h2 : k = 2
   ·subst h2;clear k0 h0 k1 h1;have e : mayV ⟨2, n, s⟩ = decide (s = []) := rfl;by_cases c : s = []
    all_goals
     have b2 : s.isEmpty = decide (s = []) := by cases s <;> rfl
     simp only [c, decide_true, decide_false] at e b2
     try subst c
     have E := LH e;clear e;go_enter Tryz.func123, Tryz.ntmps123;go_wp2;go_ret;exact ⟨by simp [E.out], SR.alloc _⟩
   ·have k2 : (k == 2) = false := by simpa using h2
    by_cases h3 : k = 3
    ·subst h3;clear k0 h0 k1 h1 k2 h2;have e : mayV ⟨3, n, s⟩ = (decide (n = 0) && decide (s.length ≤ 64)) := rfl;by_cases a : n = 0 <;> by_cases c : s.length ≤ 64
     all_goals
      have b1 : (n == 0) = decide (n = 0) := rfl;have hz : (str s).size = s.length := str_size s;simp only [a, c, decide_true, decide_false, Bool.and_true, Bool.true_and, Bool.and_false, Bool.false_and] at e b1
      try subst a
      have E := LH e;clear e;go_enter Tryz.func123, Tryz.ntmps123;go_wp2;go_ret;exact ⟨by rw [E.out]; simp; try omega, SR.alloc _⟩
    ·have k3 : (k == 3) = false := by simpa using h3
     have e : mayV ⟨k, n, s⟩ = false := by unfold mayV; simp [h0, h1, h2, h3]
     have E := LH e;clear e;go_enter Tryz.func123, Tryz.ntmps123;go_wp2;go_ret;exact ⟨by simp [E.out], SR.alloc _⟩
theorem val_cells {w : World} {k : Nat} {v : Val} (h : Row w k 31 (valCs v)) :
  w.cell? ⟨k, 0, none⟩ = some (.int .i64 v.kind) ∧ w.cell? ⟨k, 1, none⟩ = some (.int .i64 v.n) ∧ w.cell? ⟨k, 2, none⟩ = some (.string (str v.s)) ∧ w.frozen? ⟨k, 0, none⟩ = false ∧ w.frozen? ⟨k, 1, none⟩ = false ∧ w.frozen? ⟨k, 2, none⟩ = false :=
 ⟨h.cell 0, h.cell 1, h.cell 2, h.frozen 0, h.frozen 1, h.frozen 2⟩
/-- A slice of texts. -/
abbrev StrR (w : World) (S : Nat → Prop) (v : Value) (l : List (List UInt8)) : Prop := RowR (fun s : List UInt8 => [.string (str s)]) 1 w S v l
theorem StrR.form {w : World} {S : Nat → Prop} {v : Value} {l : List (List UInt8)} (h : StrR w S v l) : ∃ A c, v = .slice A l.length c ∧ l.length ≤ c ∧ c ≤ maxLen := by
 obtain ⟨A, c, h1, h2, h3, -⟩ := h;exact ⟨A, c, h1, h2, h3⟩
theorem StrR.cell {w : World} {S : Nat → Prop} {A : Option Addr} {n c i : Nat} {l : List (List UInt8)} (h : StrR w S (.slice A n c) l) (hi : i < l.length) : ∃ ad, A = some ad ∧ w.cell? (ad.add i) = some (.string (str l[i])) := by
 obtain ⟨ad, c', h1, h2, h3, h4, h5⟩ := RowR.at_ h (fun _ => rfl) hi;injection h1 with e1 e2 e3;subst e1;refine ⟨ad, rfl, ?_⟩;have := h5 0 (by omega);rw [Nat.mul_one] at this;simpa [Addr.add] using this
abbrev pV (g : Nat) : Value := .pointer (some ⟨g, 0, none⟩)
theorem begins_cons (s : List UInt8) (ss : List (List UInt8)) (l : List PT) : beginsT (s :: ss) l = (isT s l || beginsT ss l) := rfl
set_option maxRecDepth 100000 in
set_option maxHeartbeats 1000000 in
theorem index_any (g t : Nat) (l : List PT) (o : Nat) (ss : List (List UInt8)) (v : Value) (S : Nat → Prop) (w : World) (h : PS w g t l o) (hv : StrR w S v ss) :
  Calls Tryz.prog 114 #[v, .func (.func 86) #[pV g] #[]] w fun e w' => ∃ i : Int, e = .returned (.int .i64 i) ∧ decide (0 ≤ i) = beginsT ss l ∧ Same (fun _ => True) w w' := by
 obtain ⟨A, c, rfl, hc, hm⟩ := hv.form;unfold maxLen at hm;have Hv := LH hv;have H := LH h;clear hv h;go_enter Tryz.func114, Tryz.ntmps114;go_wp2;go_loopw [8] (fun i wr => ∃ k : Nat, i = .int .i64 k ∧ k ≤ ss.length ∧ beginsT ss l = beginsT (ss.drop k) l ∧ Same (fun _ => True) w wr) (fun i _ => ss.length - (intOf i).toNat)
 case atStart => exact ⟨0, rfl, Nat.zero_le _, rfl, Same.refl _ _⟩
 case round =>
  obtain ⟨k, rfl, hk, hb, hS⟩ := hrel;have HS := LH hS;have x1 : (0 : Int) ≤ (k : Int) := by omega
  by_cases hkl : k < ss.length
  ·obtain ⟨ad, rfl, c0⟩ := StrR.cell (RowR.keepAll Hv.out HS.out) hkl;have hd : ss.drop k = ss[k] :: ss.drop (k + 1) := List.drop_eq_getElem_cons hkl;rw [hd, begins_cons] at hb;have x2 : (k : Int) < (ss.length : Int) := by omega
   have hi := is_any g t l o ss[k] wr (H.out.keep HS.out);cases hq : isT ss[k] l
   ·rw [hq, Bool.false_or] at hb;rw [hq] at hi;have Hb := LH hb;clear hb hq hd hS;go_wp2_with (go_at_call 86; refine stopAt ?_);unfold Hid;refine hi.mono ?_;rintro e w1 ⟨rfl, hS1⟩;have HS1 := LH (HS.out.trans hS1);clear hS1 hi;go_wp2;go_roundw
    case rel => exact ⟨k + 1, by go_num, by omega, Hb.out, HS1.out⟩
    case measure => simp [intOf]; omega
   ·rw [hq, Bool.true_or] at hb;rw [hq] at hi;have Hb := LH hb;clear hb hq hd hS;go_wp2_with (go_at_call 86; refine stopAt ?_);unfold Hid;refine hi.mono ?_;rintro e w1 ⟨rfl, hS1⟩;have HS1 := LH (HS.out.trans hS1);clear hS1 hi;go_wp2;go_ret;exact ⟨_, rfl, by rw [Hb.out]; simp, HS1.out⟩
  ·obtain rfl : k = ss.length := by omega
   rw [List.drop_length] at hb;have Hb := LH hb;clear hb hS;go_wp2;go_ret;exact ⟨_, rfl, by rw [Hb.out]; rfl, HS.out⟩
set_option maxRecDepth 100000 in
set_option maxHeartbeats 1000000 in
theorem begins_any (g t : Nat) (l : List PT) (o : Nat) (ss : List (List UInt8)) (v : Value) (S : Nat → Prop) (w : World) (h : PS w g t l o) (hv : StrR w S v ss) :
  Calls Tryz.prog 38 #[pV g, v] w fun e w' => e = .returned (.bool (beginsT ss l)) ∧ Same (fun _ => True) w w' := by
 have key : Calls Tryz.prog 90 #[v, .func (.func 86) #[pV g] #[]] w fun e w' => e = .returned (.bool (beginsT ss l)) ∧ Same (fun _ => True) w w' := by
  have hx := index_any g t l o ss v S w h hv;clear h hv;go_enter Tryz.func90, Tryz.ntmps90;go_wp2_with (go_at_call 114; refine stopAt ?_);unfold Hid;refine hx.mono ?_;rintro e w1 ⟨i, rfl, hi, hS⟩;have Hi := LH hi;clear hi hx;go_wp2;go_ret;exact ⟨ret_bool Hi.out, hS⟩
 have hmf : ∀ (fn : Fn) (first cap : Array Value) (w : World), (Instr.makeFunc fn first cap).run Tryz.prog w = .ok (.func fn first cap) w := fun _ _ _ _ => rfl
 clear h hv;go_enter Tryz.func38, Tryz.ntmps38;go_wp2_with (go_at_call 90; refine stopAt ?_);unfold Hid;refine key.mono ?_;rintro e w1 ⟨rfl, hS⟩;go_wp2;go_ret;exact ⟨rfl, hS⟩
theorem StrR.keepG {w w' : World} {g : Nat} {v : Value} {l : List (List UInt8)} (h : StrR w (fun q => q ≠ g) v l) (hs : Same (fun q => q ≠ g) w w') : StrR w' (fun q => q ≠ g) v l := RowR.keep h hs
theorem must_cons (s : List UInt8) (r : List (List UInt8)) (l : List PT) : mustT (s :: r) l = if isT s l then mustT r l.tail else wrongT 13 l := rfl
set_option maxRecDepth 100000 in
set_option maxHeartbeats 1000000 in
theorem must_any (g t : Nat) (l : List PT) (o : Nat) (ss : List (List UInt8)) (v : Value) (w : World) (h : PS w g t l o) (hv : StrR w (fun q => q ≠ g) v ss) :
  Calls Tryz.prog 40 #[pV g, v] w (DoP g t o (mustT ss l) (fun _ _ v => v = .tuple #[]) w) := by
 obtain ⟨A, c, rfl, hc, hm⟩ := hv.form;unfold maxLen at hm;have Hv := LH hv;have H := LH h;obtain ⟨x, hx⟩ : ∃ x, mustT ss l = x := ⟨_, rfl⟩;rw [hx];have HX := LH hx;clear hv h hx;go_enter Tryz.func40, Tryz.ntmps40;go_wp2;go_loopw [8] (fun i wr => ∃ (k : Nat) (l' : List PT), i = .int .i64 k ∧ k ≤ ss.length ∧ mustT (ss.drop k) l' = x ∧ PS wr g t l' o ∧ Same (fun q => q ≠ g) w wr) (fun i _ => ss.length - (intOf i).toNat)
 case atStart => exact ⟨0, l, rfl, Nat.zero_le _, HX.out, H.out, Same.refl _ _⟩
 case round =>
  obtain ⟨k, l', rfl, hk, hb, hp, hS⟩ := hrel;have HS := LH hS;have HP := LH hp;have x1 : (0 : Int) ≤ (k : Int) := by omega
  by_cases hkl : k < ss.length
  ·obtain ⟨ad, rfl, c0⟩ := StrR.cell (StrR.keepG Hv.out HS.out) hkl;have hd : ss.drop k = ss[k] :: ss.drop (k + 1) := List.drop_eq_getElem_cons hkl;rw [hd, must_cons] at hb;have x2 : (k : Int) < (ss.length : Int) := by omega
   have hi := take_any g t l' o ss[k] wr hp;cases hq : isT ss[k] l'
   ·rw [hq] at hi hb;rw [if_neg (by simp)] at hb;have Hb := LH hb;clear hb hq hd hS hp;go_wp2_with (go_at_call 37; refine stopAt ?_);unfold Hid;refine hi.mono ?_;rintro e w1 ⟨rfl, hp1, hS1⟩;rw [if_neg (by simp)] at hp1;have hwr := wrong_any g t l' o 13 w1 hp1;have HS1 := LH (HS.out.trans hS1);clear hS1 hi hp1;go_wp2_with (go_at_call 39; refine stopAt ?_);unfold Hid;refine hwr.mono ?_;rintro e w2 ⟨rfl, hS2⟩
    have hd : DoP g t o x (fun _ _ v => v = .tuple #[]) w (.panicked [{ v := failV (hdT l').1 13, recovered := false }]) w2 := by
     rw [← Hb.out];exact ⟨rfl, HS1.out.trans hS2⟩
    exact ⟨rfl, hd⟩
   ·rw [hq] at hi hb;rw [if_pos rfl] at hb;have Hb := LH hb;clear hb hq hd hS hp;go_wp2_with (go_at_call 37; refine stopAt ?_);unfold Hid;refine hi.mono ?_;rintro e w1 ⟨rfl, hp1, hS1⟩;rw [if_pos rfl] at hp1;have HP1 := LH hp1;have HS1 := LH (HS.out.trans hS1);clear hS1 hi hp1;go_wp2;go_roundw
    case rel => exact ⟨k + 1, l'.tail, by go_num, by omega, Hb.out, HP1.out, HS1.out⟩
    case measure => simp [intOf]; omega
  ·obtain rfl : k = ss.length := by omega
   rw [List.drop_length] at hb;have Hb := LH hb;clear hb hS hp;go_wp2;go_end0;rw [← Hb.out];exact ⟨_, rfl, rfl, HP.out, HS.out⟩
def tW (s : List UInt8) : Tok := ⟨1, s, 0⟩
def tS (s : List UInt8) : Tok := ⟨4, s, 0⟩
def isK (s : List UInt8) (t : Tok) : Bool := (decide (t.kind = 1) || decide (t.kind = 4)) && decide (t.s = s)
def beginsK (ss : List (List UInt8)) (t : Tok) : Bool := ss.any fun s => isK s t
theorem isT_K (s : List UInt8) (l : List PT) : isT s l = isK s (hdT l).2 := id rfl
theorem begins_K (ss : List (List UInt8)) (l : List PT) : beginsT ss l = beginsK ss (hdT l).2 := id rfl
def aft : Rl → Tok → Bool
 | .unary, _ => true
 | .prod, t => !beginsK [[42], [47], [37]] t
 | .sum, t => !beginsK [[42], [47], [37]] t && !beginsK [[43], [45]] t
 | .cmp, t => !beginsK [[42], [47], [37]] t && !beginsK [[43], [45]] t && !beginsK cmpsT t && !isK wIS t
 | .not, t => !beginsK [[42], [47], [37]] t && !beginsK [[43], [45]] t && !beginsK cmpsT t && !isK wIS t
 | .and, t => !beginsK [[42], [47], [37]] t && !beginsK [[43], [45]] t && !beginsK cmpsT t && !isK wIS t && !beginsK [wAND] t
 | .or, t => !beginsK [[42], [47], [37]] t && !beginsK [[43], [45]] t && !beginsK cmpsT t && !isK wIS t && !beginsK [wAND] t && !beginsK [wOR] t
theorem chain_stop {f : List PT → PR Dp} {signs : List (List UInt8)} {l : List PT} (h : beginsK signs (hdT l).2 = false) (k : Nat) (d : Dp) : chainT f signs k d l = .ok (d, l) := by
 cases k with
 | zero => rfl
 | succ k => unfold chainT; rw [begins_K, h]; rfl
theorem rule_not (n : Nat) (l : List PT) : ruleT (n + 1) .not l = if isT wNOT l then thenT (ruleT n .not l.tail) fun d l1 => opT (hdT l).1 wNOT [d] l1 else ruleT n .cmp l := rfl
theorem rule_cmp (n : Nat) (l : List PT) : ruleT (n + 1) .cmp l = thenT (ruleT n .sum l) fun d l1 =>
  if beginsT cmpsT l1 then thenT (ruleT n .sum l1.tail) fun d2 l2 => opT (hdT l1).1 (hdT l1).2.s [d, d2] l2
  else if isT wIS l1 then
   if isT wNOT l1.tail then thenT (mustT [wNULL] l1.tail.tail) fun _ l2 => opT (hdT l1).1 wNOTNULL [d] l2
   else thenT (mustT [wNULL] l1.tail) fun _ l2 => opT (hdT l1).1 wISNULL [d] l2
  else .ok (d, l1) := rfl
theorem rule_unary (n : Nat) (l : List PT) : ruleT (n + 1) .unary l =
  if isT [45] l then thenT (ruleT n .unary l.tail) fun d l1 => opT (hdT l).1 wNEG [d] l1
  else if isT [40] l then thenT (ruleT n .or l.tail) fun d l1 => thenT (mustT [[41]] l1) fun _ l2 => .ok (d, l2)
  else if (hdT l).2.kind = 2 then .ok (leafV ⟨2, (hdT l).2.n, []⟩, l.tail)
  else if (hdT l).2.kind = 3 then .ok (leafV ⟨3, 0, (hdT l).2.s⟩, l.tail)
  else if isT wTRUE l then .ok (leafV ⟨1, 1, []⟩, l.tail)
  else if isT wFALSE l then .ok (leafV ⟨1, 0, []⟩, l.tail)
  else if isT wNULL l then .ok (leafV ⟨0, 0, []⟩, l.tail)
  else thenT (nameT l) fun s l1 => .ok (⟨.mk 2 s .zero [], 1⟩, l1) := rfl
/-- With so many rules to open, these tokens are read by rule r as d, whatever follows that may. -/
def Rd (k : Nat) (r : Rl) (ts : List Tok) (d : Dp) : Prop :=
 ∀ n, k ≤ n → ∀ (T R : List PT), T.map (·.2) = ts → aft r (hdT R).2 = true → ruleT n r (T ++ R) = .ok (d, R)
def NotNot (ts : List Tok) : Prop := ∃ t r, ts = t :: r ∧ isK wNOT t = false
section
variable {k : Nat} {ts ta tb : List Tok} {d da db : Dp}
theorem Rd.mono {k' : Nat} {r : Rl} (h : Rd k r ts d) (hk : k ≤ k') : Rd k' r ts d := fun n hn => h n (by omega)
theorem run_read {f : List PT → PR Dp} {signs : List (List UInt8)} {l R : List PT} (h : f l = .ok (d, R)) (hs : beginsK signs (hdT R).2 = false) : runT f signs l = .ok (d, R) := by
 unfold runT;rw [h, thenT_ok];exact chain_stop hs _ _
theorem Rd.prod (h : Rd k .unary ts d) : Rd (k + 1) .prod ts d := by
 intro n hn T R hT hR;obtain ⟨n, rfl⟩ : ∃ m, n = m + 1 := ⟨n - 1, by omega⟩;exact run_read (h n (by omega) T R hT rfl) (by simpa [aft] using hR)
theorem Rd.sum (h : Rd k .prod ts d) : Rd (k + 1) .sum ts d := by
 intro n hn T R hT hR;obtain ⟨n, rfl⟩ : ∃ m, n = m + 1 := ⟨n - 1, by omega⟩;simp only [aft, Bool.and_eq_true, Bool.not_eq_true'] at hR;exact run_read (h n (by omega) T R hT (by simp [aft, hR])) hR.2
theorem Rd.cmp (h : Rd k .sum ts d) : Rd (k + 1) .cmp ts d := by
 intro n hn T R hT hR;obtain ⟨n, rfl⟩ : ∃ m, n = m + 1 := ⟨n - 1, by omega⟩;simp only [aft, Bool.and_eq_true, Bool.not_eq_true'] at hR;rw [rule_cmp, h n (by omega) T R hT (by simp [aft, hR]), thenT_ok, begins_K, isT_K, hR.1.2, hR.2];rfl
theorem head_of (hT : NotNot ts) {T R : List PT} (h : T.map (·.2) = ts) : isT wNOT (T ++ R) = false := by
 obtain ⟨t, r, e, h2⟩ := hT;cases T with
 | nil => rw [e] at h; cases h
 | cons x T =>
  rw [e] at h;injection h with h1 h3;rw [isT_K, List.cons_append, hdT_cons, show x.2 = t from h1];exact h2
theorem Rd.not (h : Rd k .cmp ts d) (hN : NotNot ts) : Rd (k + 1) .not ts d := by
 intro n hn T R hT hR;obtain ⟨n, rfl⟩ : ∃ m, n = m + 1 := ⟨n - 1, by omega⟩;rw [rule_not, head_of hN hT];exact h n (by omega) T R hT hR
theorem Rd.and (h : Rd k .not ts d) : Rd (k + 1) .and ts d := by
 intro n hn T R hT hR;obtain ⟨n, rfl⟩ : ∃ m, n = m + 1 := ⟨n - 1, by omega⟩;simp only [aft, Bool.and_eq_true, Bool.not_eq_true'] at hR;exact run_read (h n (by omega) T R hT (by simp [aft, hR])) hR.2
theorem Rd.or (h : Rd k .and ts d) : Rd (k + 1) .or ts d := by
 intro n hn T R hT hR;obtain ⟨n, rfl⟩ : ∃ m, n = m + 1 := ⟨n - 1, by omega⟩;simp only [aft, Bool.and_eq_true, Bool.not_eq_true'] at hR;exact run_read (h n (by omega) T R hT (by simp [aft, hR])) hR.2
theorem map_app {T : List PT} {a b : List Tok} (h : T.map (·.2) = a ++ b) : ∃ A B, T = A ++ B ∧ A.map (·.2) = a ∧ B.map (·.2) = b := by
 refine ⟨T.take a.length, T.drop a.length, (List.take_append_drop _ _).symm, ?_, ?_⟩
 ·rw [List.map_take, h, List.take_left]
 ·rw [List.map_drop, h, List.drop_left]
theorem map_cons {T : List PT} {t : Tok} {b : List Tok} (h : T.map (·.2) = t :: b) : ∃ p B, T = (p, t) :: B ∧ B.map (·.2) = b := by
 cases T with
 | nil => cases h
 | cons x T =>
  injection h with h1 h2;exact ⟨x.1, T, by rw [← h1], h2⟩
theorem map_nil {T : List PT} (h : T.map (·.2) = []) : T = [] := List.map_eq_nil_iff.1 h
/-- One more operator. -/
def opD (s : List UInt8) (args : List Dp) : Dp := ⟨.mk 3 s .zero (args.map (·.e)), deepOf args + 1⟩
theorem opT_ok {pl : Nat} {s : List UInt8} {args : List Dp} {l : List PT} (h : deepOf args ≤ 15) : opT pl s args l = .ok (opD s args, l) := by
 unfold opT;rw [if_neg (by omega)];rfl
theorem Rd.rel {t : Tok} (ht : beginsK cmpsT t = true) (hq : aft .sum t = true) (ha : Rd k .sum ta da) (hb : Rd k .sum tb db) (hd : deepOf [da, db] ≤ 15) : Rd (k + 1) .cmp (ta ++ t :: tb) (opD t.s [da, db]) := by
 intro n hn T R hT hR;obtain ⟨n, rfl⟩ : ∃ m, n = m + 1 := ⟨n - 1, by omega⟩;obtain ⟨A, B, rfl, hA, hB⟩ := map_app hT;obtain ⟨p, B, rfl, hB1x⟩ := map_cons hB;simp only [aft, Bool.and_eq_true, Bool.not_eq_true'] at hR;rw [List.append_assoc, List.cons_append];rw [rule_cmp, ha n (by omega) A _ hA (by rw [hdT_cons]; exact hq), thenT_ok, begins_K, hdT_cons, if_pos ht, List.tail_cons, hb n (by omega) B R hB1x (by simp [aft, hR]), thenT_ok];exact opT_ok hd
theorem Rd.neg (ha : Rd k .unary ta da) (hd : da.n ≤ 15) : Rd (k + 1) .unary (tS [45] :: ta) (opD wNEG [da]) := by
 intro n hn T R hT hR;obtain ⟨n, rfl⟩ : ∃ m, n = m + 1 := ⟨n - 1, by omega⟩;obtain ⟨p, A, rfl, hA1⟩ := map_cons hT;rw [rule_unary, List.cons_append, List.tail_cons, isT_K, hdT_cons, show isK [45] (tS [45]) = true from by decide, ha n (by omega) A R hA1 hR];simp only [if_true, thenT_ok];exact opT_ok (by simp [deepOf, hd])
theorem Rd.up (h : Rd k .unary ts d) (hN : NotNot ts) : Rd (k + 6) .or ts d := ((((h.prod.sum).cmp).not hN).and).or
end
def setsL : List Value → Nat → List Value → List Value
 | L, _, [] => L
 | L, k, v :: vs => setsL (L.set k v) (k + 1) vs
def setsW : World → Nat → Nat → List Value → World
 | w, _, _, [] => w
 | w, g, k, v :: vs => setsW (w.setCell ⟨g, k, none⟩ v) g (k + 1) vs
theorem Row.sets {g : Nat} {e : TypeId} : ∀ (vs : List Value) {w : World} {L : List Value} (k : Nat), Row w g e L → Row (setsW w g k vs) g e (setsL L k vs)
 | [], _, _, _, h => h
 | v :: vs, w, L, k, h => Row.sets vs (k + 1) (h.set_ k v)
theorem Same.sets {S : Nat → Prop} {g : Nat} (hg : ¬ S g) : ∀ (vs : List Value) {w w' : World} (k : Nat), Same S w w' → Same S w (setsW w' g k vs)
 | [], _, _, _, h => h
 | v :: vs, w, w', k, h => Same.sets hg vs (k + 1) (h.setCell (p := ⟨g, k, none⟩) (fun _ => hg) v)
theorem Same.sets' {S : Nat → Prop} {g : Nat} {w : World} (hg : w.heap.size ≤ g) : ∀ (vs : List Value) {w' : World} (k : Nat), Same S w w' → Same S w (setsW w' g k vs)
 | [], _, _, h => h
 | v :: vs, _, k, h => Same.sets' hg vs (k + 1) (h.setCell (p := ⟨g, k, none⟩) (fun hp => by have hp : g < w.heap.size := hp; omega) v)
def exP (p : Value × Ex) : List Value := exCs p.1 p.2
theorem exP_len (p : Value × Ex) : (exP p).length = 6 := rfl
theorem exP_one (p : Value × Ex) (hu : p.1.oneCell' = true) : ∀ u ∈ exP p, u.oneCell' = true := by
 intro u h;simp only [exP, exCs, List.mem_cons, List.not_mem_nil, or_false] at h;rcases h with rfl | rfl | rfl | rfl | rfl | rfl <;> first | rfl | exact hu
theorem TEx : SlT Tryz.prog 32 34 6 80 (.agg #[.int .i64 0, .string ⟨#[]⟩, .int .i64 0, .int .i64 0, .string ⟨#[]⟩, .slice none 0 0]) := ⟨by kernel_rfl, by kernel_rfl, rfl, by omega⟩
def dpCs (u : Value) (d : Dp) : List Value := [.int .i64 d.e.kind, .string (str d.e.s), .int .i64 d.e.v.kind, .int .i64 d.e.v.n, .string (str d.e.v.s), u, .int .i64 d.n]
abbrev dpV (u : Value) (d : Dp) : Value := .agg #[.int .i64 d.e.kind, .string (str d.e.s), .int .i64 d.e.v.kind, .int .i64 d.e.v.n, .string (str d.e.v.s), u, .int .i64 d.n]
def dpP (p : Value × Dp) : List Value := dpCs p.1 p.2
theorem dpP_len (p : Value × Dp) : (dpP p).length = 7 := rfl
/-- A slice of expressions with their depths. -/
def DpR (w : World) (S : Nat → Prop) (v : Value) (ds : List Dp) : Prop :=
 ∃ us : List Value, us.length = ds.length ∧ RowR dpP 7 w S v (us.zip ds) ∧ ∀ (i : Nat) (u : Value) (d : Dp), us[i]? = some u → ds[i]? = some d → ExR w S u d.e
abbrev tokV4 (t : PT) : Value := .agg #[.int .i64 t.2.kind, .int .i64 t.1, .string (str t.2.s), .int .i64 t.2.n]
theorem DpR.keepAll {w w' : World} {S : Nat → Prop} {v : Value} {ds : List Dp} (h : DpR w S v ds) (hs : Same (fun _ => True) w w') : DpR w' S v ds := by
 obtain ⟨us, h1, h2, h3⟩ := h;exact ⟨us, h1, RowR.keepAll h2 hs, fun i u d a b => (h3 i u d a b).keepAll hs⟩
/-- One struct behind a row that the call owns. -/
theorem wpList_appE {α : Type} {f : α → List Value} {n : Nat} {e : TypeId} {P : Program} {t : TypeId} {bytes : Nat} {z : Value} (T : SlT P t e n bytes z) (hf : ∀ x, (f x).length = n) {w : World} {ops : Array Oper} {rest : List Oper} {o : Oper} {a : Act} {Q : Exit → Act → World → Prop} (hgd : o.guard = none) (s x : Operand)
  (ho : o.op = .call { callee := .builtin .append, args := #[s, x], argTypes := #[t, t] }) {B : Nat} {v : Value} {l : List α} (c : α) (h1 : ∀ u ∈ f c, u.oneCell' = true)
  (hs : a.eval s = v) {g : Nat} (hx : a.eval x = .slice (some ⟨g, 0, none⟩) 1 1) (hg : g = w.heap.size) (hown : OwnR f n e w B v l) (hB : B ≤ w.heap.size) (hlen : l.length + 1 ≤ maxLen) (hbytes : (l.length + 1) * bytes ≤ 140737488355328)
  (hK : ∀ v' w', OwnR f n e w' B v' (l ++ [c]) → Same (fun k => some k ≠ v.ownBlock) w w' → wpList P ops Q rest (a.put o.dst v') w') : wpList P ops Q (o :: rest) a (w.alloc (.cells (f c).toArray e)) := by
 subst hg;have hs1 : Same (fun _ => True) w (w.alloc (.cells (f c).toArray e)) := SR.alloc _;have hrow := Row.new w e (f c);have hsl := hrow.sl (size := n) (off := 0) (n := 1) (by rw [hf]; omega);rw [List.drop_zero, List.take_of_length_le (by rw [hf]; omega)] at hsl;refine wpList_app T _ hgd s x ho B v l.length (l.flatMap f) hs (hown.keepAll hs1) _ _ 1 1 (f c) hx hsl h1 hlen hbytes (by simp; omega) ?_;intro v' w' h2 h3 h4;refine hK v' w' ?_ ((hs1.mono fun _ _ _ => tv).trans h3);unfold OwnR;rw [List.length_append, List.flatMap_append];simpa using h2
theorem deepOf_app (l : List Dp) (d : Dp) : deepOf (l ++ [d]) = max (deepOf l) d.n := by
 induction l with
 | nil => simp [deepOf]
 | cons a l ih => simp only [List.cons_append, deepOf, ih]; omega
theorem deepOf_le {N : Nat} : ∀ (l : List Dp), (∀ d ∈ l, d.n ≤ N) → deepOf l ≤ N
 | [], _ => Nat.zero_le _
 | a :: l, h => by
  have h1 := h a (by simp);have h2 := deepOf_le l fun d hd => h d (by simp [hd])
  simp only [deepOf];omega
theorem ExR.one {w : World} {S : Nat → Prop} {u : Value} {e : Ex} (h : ExR w S u e) : u.oneCell' = true := by
 obtain ⟨A, c, rfl, _⟩ := h.toL.form;rfl
theorem op_results {W : World} {k : Nat} {u : Value} {d : Dp} (R : Row W k 155 (dpCs u d)) {tmps : Array Value} (h1 : tmps.getD 6 undef = .pointer (some ⟨k, 0, none⟩)) :
  (results Tryz.f142 tmps).run Tryz.prog W = .ok (dpV u d) W := by
 have d0 : W.cell? ⟨k, 0, none⟩ = some (.int .i64 d.e.kind) := R.cell 0;have d1 : W.cell? ⟨k, 1, none⟩ = some (.string (str d.e.s)) := R.cell 1;have d2 : W.cell? ⟨k, 2, none⟩ = some (.int .i64 d.e.v.kind) := R.cell 2;have d3 : W.cell? ⟨k, 3, none⟩ = some (.int .i64 d.e.v.n) := R.cell 3;have d4 : W.cell? ⟨k, 4, none⟩ = some (.string (str d.e.v.s)) := R.cell 4;have d5 : W.cell? ⟨k, 5, none⟩ = some u := R.cell 5;have d6 : W.cell? ⟨k, 6, none⟩ = some (.int .i64 d.n) := R.cell 6;simp at h1;simp [results, Tryz.results142, h1, go_sem, d0, d1, d2, d3, d4, d5, d6]
def OpP (S : Nat → Prop) (t : PT) (s : List UInt8) (ds : List Dp) (w : World) (e : Ending) (w' : World) : Prop :=
 (16 < deepOf ds + 1 → e = .panicked [{ v := failV t.1 3, recovered := false }]) ∧ (¬ 16 < deepOf ds + 1 → ∃ u, e = .returned (dpV u (opD s ds)) ∧ ExR w' (fun q => S q ∨ w.heap.size ≤ q) u (opD s ds).e) ∧ Same (fun _ => True) w w'
set_option maxRecDepth 100000 in
set_option maxHeartbeats 4000000 in
theorem op_any (t : PT) (s : List UInt8) (v : Value) (ds : List Dp) (S : Nat → Prop) (w : World) (hv : DpR w S v ds) (hn : ds.length ≤ 1000) (hd : ∀ d ∈ ds, d.n ≤ 1000000) :
  Calls Tryz.prog 142 #[tokV4 t, .string (str s), v] w (OpP S t s ds w) := by
 obtain ⟨us, hul, hrow, hex⟩ := hv;obtain ⟨A, c, rfl, hc, hm, -⟩ := id hrow;unfold maxLen at hm;have hzl : (us.zip ds).length = ds.length := by simp [hul]
 rw [hzl] at hc hrow ⊢;have Hrow := LH hrow;have Hex := LH hex;have Hd := LH hd;have Hul := LH hul;have Hzl := LH hzl;clear hrow hex hd hul hzl;have r0 := ((Row.new w 75 (tokCs t)).keep ((ST).alloc (.cells (dpCs (.slice none 0 0) ⟨.zero, 0⟩).toArray 155)) tv).keep ((ST).alloc (.cells (dpCs (.slice none 0 0) ⟨.mk 3 s .zero [], 0⟩).toArray 155)) tv;have r1 := (Row.new (w.alloc (.cells (tokCs t).toArray 75)) 155 (dpCs (.slice none 0 0) ⟨.zero, 0⟩)).keep ((ST).alloc (.cells (dpCs (.slice none 0 0) ⟨.mk 3 s .zero [], 0⟩).toArray 155)) tv;have r2 := Row.new ((w.alloc (.cells (tokCs t).toArray 75)).alloc (.cells (dpCs (.slice none 0 0) ⟨.zero, 0⟩).toArray 155)) 155 (dpCs (.slice none 0 0) ⟨.mk 3 s .zero [], 0⟩);have hS0 := (((Same.refl (fun _ => True) w).alloc (.cells (tokCs t).toArray 75)).alloc (.cells (dpCs (.slice none 0 0) ⟨.zero, 0⟩).toArray 155)).alloc (.cells (dpCs (.slice none 0 0) ⟨.mk 3 s .zero [], 0⟩).toArray 155);have hsz : (((w.alloc (.cells (tokCs t).toArray 75)).alloc (.cells (dpCs (.slice none 0 0) ⟨.zero, 0⟩).toArray 155)).alloc (.cells (dpCs (.slice none 0 0) ⟨.mk 3 s .zero [], 0⟩).toArray 155)).heap.size = w.heap.size + 3 := by simp
 rw [World.size_alloc] at r1;rw [World.size_alloc, World.size_alloc] at r2;go_enter Tryz.func142, Tryz.ntmps142;go_wp2;simp only [tokCs, dpCs, Ex.kind, Ex.s, Ex.v, Ex.zero, Val.zero, show str [] = ⟨#[]⟩ from rfl, show ((0 : Nat) : Int) = 0 from rfl] at r0 r1 r2 hS0 hsz;revert r0 r1 r2 hS0 hsz;generalize hw3 : ((w.alloc _).alloc _).alloc _ = w3;intro r0 r1 r2 hS0 hsz;clear hw3;have R0 := LH r0;have R1 := LH r1;have R2 := LH r2;have HS0 := LH hS0;clear r0 r1 r2 hS0;go_loopw [15] (fun i wr => ∃ (k : Nat) (va : Value), i = .int .i64 k ∧ k ≤ ds.length ∧ Row wr (w.heap.size + 2) 155 [.int .i64 3, .string (str s), .int .i64 0, .int .i64 0, .string ⟨#[]⟩, va, .int .i64 (deepOf (ds.take k))] ∧ OwnR exP 6 34 wr (w.heap.size + 3) va ((us.zip (ds.map (·.e))).take k) ∧ Same (fun q => q < w.heap.size + 2) w3 wr) (fun i _ => ds.length - (intOf i).toNat)
 case atStart => exact ⟨0, _, rfl, Nat.zero_le _, R2.out, OwnR.nil _ _, Same.refl _ _⟩
 case round =>
  obtain ⟨k, va, rfl, hk, hr, ho, hS⟩ := hrel;have HS := LH hS;have HR := LH hr;have HO := LH ho;have x1 : (0 : Int) ≤ (k : Int) := by omega
  have zw := hr.lt;have hS3 := HS0.out.trans' hS fun q hq _ => by omega
  have HS3 := LH hS3;by_cases hkl : k < ds.length
  ·have hku : k < us.length := by rw [Hul.out]; exact hkl
   obtain ⟨ad, c', hv1, -, -, -, hcs⟩ := RowR.at_ (RowR.keepAll Hrow.out hS3) dpP_len (i := k) (by rw [Hzl.out]; exact hkl);rw [Hzl.out] at hv1;injection hv1 with hv1 _ hv3;subst hv1 hv3;have hz : (us.zip ds)[k]'(by rw [Hzl.out]; exact hkl) = (us[k], ds[k]) := by simp
   rw [hz] at hcs;have hex := (Hex.out k us[k] ds[k] (List.getElem?_eq_getElem hku) (List.getElem?_eq_getElem hkl));have hone := hex.one;have hdn := Hd.out ds[k] (List.getElem_mem hkl);have hdk : deepOf (ds.take (k + 1)) = max (deepOf (ds.take k)) ds[k].n := by rw [List.take_succ_eq_append_getElem hkl, deepOf_app]
   have hzk : (us.zip (ds.map (·.e))).take (k + 1) = (us.zip (ds.map (·.e))).take k ++ [(us[k], ds[k].e)] := by
    rw [List.take_succ_eq_append_getElem (by simp [Hul.out, hkl])];simp
   have Hdk := LH hdk;have Hzk := LH hzk;have Hone := LH hone;generalize hdd : ds[k] = d at *;generalize huu : us[k] = u at *;obtain ⟨Au, cu, hu, -, -⟩ := hex.toL.form;generalize d.e.args.length = nu at hu;clear hex;subst hu;have c0 := hcs 0 (by omega);have c1 := hcs 1 (by omega);have c2 := hcs 2 (by omega);have c3 := hcs 3 (by omega);have c4 := hcs 4 (by omega);have c5 := hcs 5 (by omega);have c6 := hcs 6 (by omega);rw [addr_add _ _ (by omega)] at c1 c2 c3 c4 c5 c6;simp only [add_zero, dpP, dpCs, LG] at c0 c1 c2 c3 c4 c5 c6;have zad : (ad.add (k * 7)).block < wr.heap.size := World.block_lt_of_cell? wr _ c0;obtain ⟨p0, p1, p2, p3, p4, p5, p6⟩ := CN7 hr;have f5 := hr.frozen 5;have f6 := hr.frozen 6;have x2 : (k : Int) < (ds.length : Int) := by omega
   clear hcs hz hr ho hS hS3 hone hdk hzk hdd huu;go_wp2_with (at_builtin; refine stopAt ?_);unfold Hid;have hnr := Row.new wr 155 (dpCs (.slice Au nu cu) d);have hS4 := (Same.refl (fun _ => True) wr).alloc (.cells (dpCs (.slice Au nu cu) d).toArray 155);have hz4 : (wr.alloc (.cells (dpCs (.slice Au nu cu) d).toArray 155)).heap.size = wr.heap.size + 1 := by simp
   simp only [dpCs] at hnr hS4 hz4;revert hnr hS4 hz4;generalize wr.alloc _ = w4;intro hnr hS4 hz4;have hr4 := HR.out.keep hS4 tv;have ho4 := OwnR.keepAll HO.out hS4;clear c0 c1 c2 c3 c4 c5 c6 p0 p1 p2 p3 p4 p5 p6 zad f5 f6;refine wpList_appE TEx exP_len rfl (.tmp 21) (.tmp 24) rfl (f := exP) (B := w.heap.size + 3) (v := va) (l := (us.zip (ds.map (·.e))).take k) (.slice Au nu cu, d.e) (exP_one _ rfl) rfl rfl (by rw [hz4]) ho4 (by omega) (by simp only [List.length_take, maxLen]; omega) (by simp only [List.length_take]; omega) ?_;intro v' w5 ho5 hS5;have ho5 : OwnR exP 6 34 w5 (w.heap.size + 3) v' ((us.zip (ds.map (·.e))).take (k + 1)) := by rw [Hzk.out]; exact ho5
   have hne : ∀ q, va.ownBlock = some q → w.heap.size + 3 ≤ q ∧ q < wr.heap.size := fun q hq => HO.out.lt_ hq
   have hr5 := hr4.keep hS5 (fun e => by have := hne _ e.symm; omega);have hnr5 := hnr.keep hS5 (fun e => by have := hne _ e.symm; omega);have hS5' : Same (fun q => q < w.heap.size + 2) w3 w5 := HS.out.trans ((hS4.mono fun _ _ _ => tv).trans (hS5.mono fun q _ hq e => by have := hne _ e.symm; omega));obtain ⟨A5, c5', hv5, -, hm5⟩ := ho5.form;generalize (List.take (k + 1) (us.zip (ds.map (·.e)))).length = n5 at hv5;subst hv5;have p5 := hr5.cell 5;have p6 := hr5.cell 6;have q6 := hnr5.cell 6;simp only [LG] at p5 p6 q6;have f5 := hr5.frozen 5;have f6 := hr5.frozen 6;have zr5 := hr5.lt;have HR5 := LH hr5;have HO5 := LH ho5;have HS5 := LH hS5';clear hnr hS4 hr4 ho4 ho5 hne hr5 hnr5 hS5 hS5';have he : (max (deepOf (ds.take k) : Int) (d.n : Int)) = ((deepOf (ds.take (k + 1)) : Nat) : Int) := by rw [Hdk.out]; omega
   have He := LH he;clear he;go_wp2;go_roundw
   case rel =>
    refine ⟨k + 1, .slice A5 n5 c5', by go_num, by omega, ?_, OwnR.keep HO5.out (((Same.refl (fun q => q ≠ w.heap.size + 2) w5).setCell (p := ⟨w.heap.size + 2, 5, none⟩) (fun _ h => h rfl) _).setCell (p := ⟨w.heap.size + 2, 6, none⟩) (fun _ h => h rfl) _) (fun q hq _ => by omega), (HS5.out.setCell (p := ⟨w.heap.size + 2, 5, none⟩) (fun _ (h : w.heap.size + 2 < w.heap.size + 2) => by omega) _).setCell (p := ⟨w.heap.size + 2, 6, none⟩) (fun _ (h : w.heap.size + 2 < w.heap.size + 2) => by omega) _⟩;have := (HR5.out.set_ 5 (.slice A5 n5 c5')).set_ 6 (.int .i64 (max (deepOf (ds.take k) : Int) (d.n : Int)));rw [He.out] at this ⊢;exact this
   case measure => simp [intOf]; omega
  ·obtain rfl : k = ds.length := by omega
   rw [List.take_length] at hr;have hlz : (us.zip (ds.map (·.e))).length = ds.length := by simp [Hul.out]
   rw [List.take_of_length_le (by omega)] at ho;have hrt := R0.out.keep hS (by omega);have hrr := R1.out.keep hS (by omega);have t1 := hrt.cell 1;simp only [LG] at t1;obtain ⟨A5, c5', hv5, hcv5, hm5⟩ := ho.form;rw [hlz] at hv5 hcv5;subst hv5
   have hxl : ExL wr (fun q => (S q ∧ q < w.heap.size) ∨ w.heap.size + 3 ≤ q) (.slice A5 ds.length c5') (ds.map (·.e)) := by
    obtain ⟨A', c', h1, h2, h3, h4⟩ := (OwnR.wr ho).row exP_len;rw [hlz] at h1 h2 h4;injection h1 with h1 _ h5;subst h1 h5;refine ⟨us, A5, c5', by simp, by simp [Hul.out], by simpa using hcv5, hm5, ?_, fun i u e hu he => ?_⟩
    ·rw [List.length_map]; exact h4.mono (fun _ _ h => .inr h)
    ·obtain ⟨d, hd, rfl⟩ : ∃ d, ds[i]? = some d ∧ d.e = e := by simpa using he
     exact ((Hex.out i u d hu hd).mono (S' := fun q => (S q ∧ q < w.heap.size) ∨ w.heap.size + 3 ≤ q) fun q hq h => .inl ⟨h, hq⟩).keepAll hS3
   have Hxl := LH hxl;have HRR := LH hrr;have hdn : deepOf ds ≤ 1000000 := deepOf_le ds Hd.out;obtain ⟨p0, p1, p2, p3, p4, p5, p6⟩ := CN7 hr;have f6 := hr.frozen 6;obtain ⟨q0, q1, q2, q3, q4, q5, q6⟩ := CN7 hrr;obtain ⟨g0, g1, g2, g3, g4, g5, g6⟩ := FN7 hrr;clear hr ho hrt hrr hxl hS hS3 hlz;by_cases hdp : 16 < deepOf ds + 1
   ·have hdp1 : (16 : Int) < (deepOf ds : Int) + 1 := by omega
    go_wp2;exact ⟨rfl, fun _ => rfl, fun h => absurd hdp h, HS3.out.setCell (p := ⟨w.heap.size + 2, 6, none⟩) (fun h => absurd h (by show ¬ w.heap.size + 2 < w.heap.size; omega)) _⟩
   ·have hdp1 : ¬ (16 : Int) < (deepOf ds : Int) + 1 := by omega
    go_wp2;have hrf := HRR.out.keep ((Same.refl (fun q => q ≠ w.heap.size + 2) wr).setCell (p := ⟨w.heap.size + 2, 6, none⟩) (fun _ h => h rfl) (.int .i64 ((deepOf ds : Int) + 1))) (by omega);have hrg := hrf.sets (dpCs (.slice A5 ds.length c5') (opD s ds)) 0;have hsg : Same (fun _ => True) w (setsW (wr.setCell ⟨w.heap.size + 2, 6, none⟩ (.int .i64 ((deepOf ds : Int) + 1))) (w.heap.size + 1) 0 (dpCs (.slice A5 ds.length c5') (opD s ds))) := Same.sets' (by omega) _ 0 (HS3.out.setCell (fun h => absurd h (by show ¬ w.heap.size + 2 < w.heap.size; omega)) _);have hkx := Same.sets (S := fun q => (S q ∧ q < w.heap.size) ∨ w.heap.size + 3 ≤ q) (g := w.heap.size + 1) (fun h => by rcases h with h | h; exact absurd h.2 (by omega); omega) (dpCs (.slice A5 ds.length c5') (opD s ds)) 0 ((Same.refl (fun q => (S q ∧ q < w.heap.size) ∨ w.heap.size + 3 ≤ q) wr).setCell (p := ⟨w.heap.size + 2, 6, none⟩) (fun _ (h : (S (w.heap.size + 2) ∧ w.heap.size + 2 < w.heap.size) ∨ w.heap.size + 3 ≤ w.heap.size + 2) => by omega) (.int .i64 ((deepOf ds : Int) + 1)));have hxf := ((Hxl.out.keep hkx).mono (S' := fun q => S q ∨ w.heap.size ≤ q) fun q _ h => h.elim (fun h => .inl h.1) fun h => .inr (by omega)).toR 3 s .zero;exact bodyPost_ret (op_results (u := .slice A5 ds.length c5') (d := opD s ds) (show Row _ _ _ (dpCs (.slice A5 ds.length c5') (opD s ds)) from hrg) rfl) rfl ⟨fun h => absurd h hdp, fun _ => ⟨_, rfl, hxf⟩, hsg⟩
end Go.Proofs.YtdfojghhpdkpfaaGreatDoor
namespace Go.Proofs.YtdfojghhpdkpfaaGreatDoor
/-- The frame behind the operations, in the text's order. -/
def putAll (a : Act) : List Oper → List Value → Act
 | o :: l, v :: vs => putAll (a.put o.dst v) l vs
 | _, _ => a
theorem put_size (a : Act) (d : Option Nat) (v : Value) : (a.put d v).tmps.size = a.tmps.size := by
 cases d with
 | none => rfl
 | some d => simp [Act.put]
theorem put_defers (a : Act) (d : Option Nat) (v : Value) : (a.put d v).defers = a.defers := by cases d <;> rfl
theorem putAll_size : ∀ (l : List Oper) (vs : List Value) (a : Act), (putAll a l vs).tmps.size = a.tmps.size
 | [], _, _ => rfl
 | _ :: _, [], _ => rfl
 | o :: l, v :: vs, a => by
  show (putAll (a.put o.dst v) l vs).tmps.size = _;rw [putAll_size l vs, put_size]
theorem putAll_defers : ∀ (l : List Oper) (vs : List Value) (a : Act), (putAll a l vs).defers = a.defers
 | [], _, _ => rfl
 | _ :: _, [], _ => rfl
 | o :: l, v :: vs, a => by
  show (putAll (a.put o.dst v) l vs).defers = _;rw [putAll_defers l vs, put_defers]
theorem put_other (a : Act) {e : Option Nat} {d : Nat} (v : Value) (h : e ≠ some d) : (a.put e v).tmps.getD d undef = a.tmps.getD d undef := by
 cases e with
 | none => rfl
 | some e =>
  have hne : e ≠ d := fun x => h (by rw [x])
  simp only [Act.put, Array.getD_eq_getD_getElem?, Array.getElem?_setIfInBounds];rw [if_neg hne]
theorem putAll_other {d : Nat} : ∀ (l : List Oper) (vs : List Value) (a : Act), (∀ o ∈ l, o.dst ≠ some d) → (putAll a l vs).tmps.getD d undef = a.tmps.getD d undef
 | [], _, _, _ => rfl
 | _ :: _, [], _, _ => rfl
 | o :: l, v :: vs, a, h => by
  show (putAll (a.put o.dst v) l vs).tmps.getD d undef = _;rw [putAll_other l vs _ (fun o' ho => h o' (by simp [ho])), put_other _ _ (h o (by simp))]
theorem putAll_at {d : Nat} : ∀ (l : List Oper) (vs : List Value) (a : Act) (j : Nat) (hj : j < l.length) (hv : j < vs.length), l[j].dst = some d → (∀ (k : Nat) (hk : k < l.length), j < k → l[k].dst ≠ some d) → d < a.tmps.size →
  (putAll a l vs).tmps.getD d undef = vs[j]
 | [], _, _, j, hj, _, _, _, _ => by simp at hj
 | _ :: _, [], _, j, _, hv, _, _, _ => by simp at hv
 | o :: l, v :: vs, a, 0, _, _, hd, ho, hs => by
  show (putAll (a.put o.dst v) l vs).tmps.getD d undef = _
  rw [putAll_other l vs _ (fun o' ho' => by
   obtain ⟨k, hk, rfl⟩ := List.mem_iff_getElem.1 ho'
   exact ho (k + 1) (by simpa using hk) (by omega))]
  have hd' : o.dst = some d := hd;rw [hd', getD_put a d d v hs];simp
 | o :: l, v :: vs, a, j + 1, hj, hv, hd, ho, hs => by
  show (putAll (a.put o.dst v) l vs).tmps.getD d undef = _;have := putAll_at l vs (a.put o.dst v) j (by simpa using hj) (by simpa using hv) (by simpa using hd) (fun k hk hjk => by have := ho (k + 1) (by simpa using hk) (by omega); simpa using this) (by rw [put_size]; exact hs);simpa using this
theorem act_ext {a b : Act} (h1 : a.defers = b.defers) (h2 : a.tmps.size = b.tmps.size) (h3 : ∀ d, d < a.tmps.size → a.tmps.getD d undef = b.tmps.getD d undef) : a = b := by
 have ht : a.tmps = b.tmps := by
  apply Array.ext h2;intro i hi hi';have := h3 i hi;simpa [Array.getD_eq_getD_getElem?, hi, hi'] using this
 cases a; cases b;simp at h1 ht;rw [h1, ht]
/-- The law: every operation's value is known. -/
theorem wp_region_eq_lit {P : Program} {l : List Oper} {vs : List Value} {a0 : Act} {w0 : World} {Q : Exit → Act → World → Prop} {id : Nat} (hm : P.follows .mixedOrders = true) (hp : plainB l.toArray = true) (hv : vs.length = l.length)
  (hsz : (l.all fun o => (o.dst.map fun d => decide (d < a0.tmps.size)).getD true) = true)
  (hstep : OpsDo P l.toArray (phi (vs.map SP.eq)) a0 w0 Q 0 l)
  (hend : ∀ w, Same (fun _ => True) w0 w → Q .normal (putAll a0 l vs) w) : (Code.region id l.toArray true).wp P Q a0 w0 := by
 refine wp_region_rel_lit (L := vs.map SP.eq) hm hp hsz hstep (fun a w hs hd hz hf hw => ?_)
 have e : a = putAll a0 l vs := by
  refine act_ext (by rw [hd, putAll_defers]) (by rw [hz, putAll_size]) (fun d hdl => ?_);by_cases h : ∃ (j : Nat) (hj : j < l.length), l[j].dst = some d
  ·obtain ⟨j, hj, hjd⟩ := h;have hs1 : slotOf l.toArray j = d := slot_of (o := l[j]) (by simp [hj]) hjd;have h1 := hw j hj;rw [hs1] at h1
   have h2 : a.tmps.getD d undef = vs[j]'(by omega) := by
    have hjv : j < vs.length := by omega
    simpa [phi, hjv, SP.eq, List.getD] using h1
   rw [h2, putAll_at l vs a0 j hj (by omega) hjd (fun k hk hjk hkd => ?_) (by rw [← hz]; exact hdl)];have hs2 : slotOf l.toArray k = d := slot_of (o := l[k]) (by simp [hk]) hkd;exact (plain_at hp (i := k) (o := l[k]) (by simp [hk])).2.2 j hjk (by rw [hs1, hs2])
  ·rw [putAll_other l vs a0 (fun o ho hod => h (by
    obtain ⟨j, hj, rfl⟩ := List.mem_iff_getElem.1 ho
    exact ⟨j, hj, hod⟩))]
   exact hf d (List.all_eq_true.2 fun o ho => by
    have : o.dst ≠ some d := fun hod => h (by
     obtain ⟨j, hj, rfl⟩ := List.mem_iff_getElem.1 ho
     exact ⟨j, hj, hod⟩)
    simpa using this)
 rw [e];exact hend w hs
/-- The first n operations: each edge leads back; each has a slot of its own. -/
def plainN (ops : Array Oper) (n : Nat) : Bool :=
 (List.range n).all fun i => ((ops[i]?).map fun o => o.after.all (fun e => decide (e.on < i) || !Region.binds .any e) && o.dst.isSome && (List.range n).all fun j => decide (j = i) || slotOf ops j != slotOf ops i).getD false
/-- Does operation i wait for j? -/
def waitsAt (ops : Array Oper) (i j : Nat) : Bool := ((ops[i]?).map fun o => waits o j).getD false
/-- .. through others, too. -/
def reachB (ops : Array Oper) : Nat → Nat → Nat → Bool
 | 0, t, i => waitsAt ops t i
 | f + 1, t, i => waitsAt ops t i || (List.range ops.size).any fun j => waitsAt ops t j && reachB ops f j i
/-- The later operations wait for the first n, but d. -/
def lateB (ops : Array Oper) (n d : Nat) : Bool :=
 (List.range ops.size).all fun t => decide (t < n) || (List.range n).all fun i => decide (i = d) || reachB ops 12 t i
/-- What is listed when the first n are done, but d. -/
def headArr (s n d : Nat) : Array Bool := ((List.range s).map fun j => decide (j < n) && decide (j ≠ d)).toArray
def tailB (ops : Array Oper) (n d : Nat) : Bool :=
 decide (n < ops.size) && plainN ops n && lateB ops n d && Region.seqB .any ops (ops.size - n) n (headArr ops.size n ops.size) &&
  (decide (n ≤ d) || (decide (Region.ready .any ops (headArr ops.size n d) = [d, n]) && decide (Region.ready .any ops ((headArr ops.size n d).setIfInBounds n true) = [d]) &&
   Region.seqB .any ops (ops.size - n - 1) (n + 1) (((headArr ops.size n d).setIfInBounds n true).setIfInBounds d true)))
/-- What the operations' slots hold. -/
def valsOf (ops : Array Oper) (a : Act) (k : Nat) : Value := a.tmps.getD (slotOf ops k) undef
/-- What an operation is shown to do; its predicate may speak of the values of those that it waits for, too. -/
def OpDoes2 (P : Program) (ops : Array Oper) (φ : Nat → (Nat → Value) → World → Prop) (a0 : Act) (w0 : World) (Q : Exit → Act → World → Prop) (i : Nat) (o : Oper) : Prop :=
 ∀ (a : Act) (w : World), Same (fun _ => True) w0 w → a.defers = a0.defers → a.tmps.size = a0.tmps.size →
  (∀ d, freeAt ops i d = true → a.tmps.getD d undef = a0.tmps.getD d undef) →
  (∀ j, waits o j = true → φ j (valsOf ops a) w) →
  ∀ K : Act → World → Prop, (∀ v w', (∀ u, u i = v → (∀ j, waits o j = true → u j = valsOf ops a j) → φ i u w') → Same (fun _ => True) w w' → K (a.put o.dst v) w') →
   if Region.wanted o (yielded ops a.tmps) = true then Oper.wp P o a w K Q else K (a.put o.dst undef) w
structure RegInvN (ops : Array Oper) (n : Nat) (φ : Nat → (Nat → Value) → World → Prop) (a0 : Act) (w0 : World) (listed : Array Bool) (a : Act) (w : World) : Prop where
 defers : a.defers = a0.defers
 size : a.tmps.size = a0.tmps.size
 same : Same (fun _ => True) w0 w
 kept : ∀ d, (∀ j o, ops[j]? = some o → listed.getD j true = true → o.dst ≠ some d) → a.tmps[d]? = a0.tmps[d]?
 done : ∀ j, j < n → listed.getD j true = true → φ j (valsOf ops a) w
 down : ∀ j o e, ops[j]? = some o → listed.getD j true = true → e ∈ o.after → Region.binds .any e = true → listed.getD e.on true = true
 tail : ∀ t, n ≤ t → t < ops.size → listed.getD t true = false
section
variable {P : Program} {ops : Array Oper} {n : Nat} {φ : Nat → (Nat → Value) → World → Prop} {a0 : Act} {w0 : World} {Q : Exit → Act → World → Prop}
theorem plainN_at (hp : plainN ops n = true) {i : Nat} {o : Oper} (hi : i < n) (ho : ops[i]? = some o) :
  (∀ e ∈ o.after, Region.binds .any e = true → e.on < i) ∧ (∃ d, o.dst = some d) ∧ ∀ j, j < n → j ≠ i → slotOf ops j ≠ slotOf ops i := by
 have h := List.all_eq_true.1 hp i (List.mem_range.2 hi);rw [ho] at h;simp only [Option.map_some, Option.getD_some, Bool.and_eq_true, Array.all_eq_true_iff_forall_mem, List.all_eq_true, List.mem_range] at h;obtain ⟨⟨h1, h2⟩, h3⟩ := h;refine ⟨fun e he hb => ?_, Option.isSome_iff_exists.1 h2, fun j hj hne => ?_⟩
 ·have := h1 e he;simpa [hb] using this
 ·have := h3 j hj;simpa [hne] using this
theorem set_getD {listed : Array Bool} {i : Nat} (hi : i < listed.size) (j : Nat) : (listed.setIfInBounds i true).getD j true = if i = j then true else listed.getD j true := by
 simp only [Array.getD_eq_getD_getElem?, Array.getElem?_setIfInBounds];split
 ·rename_i e; subst e; simp [hi]
 ·rfl
/-- One more of the first operations is done. -/
theorem RegInvN.step (hp : plainN ops n = true) (hstab : ∀ i v w w', φ i v w → Same (fun _ => True) w w' → φ i v w') (hdep : ∀ i u v w, φ i u w → u i = v i → (∀ j, waitsAt ops i j = true → u j = v j) → φ i v w) (hsz : ∀ (i : Nat) (o : Oper) (d : Nat), ops[i]? = some o → o.dst = some d → d < a0.tmps.size)
  {listed : Array Bool} {a : Act} {w w' : World} {i : Nat} {o : Oper} {v : Value} (hl : listed.size = ops.size) (hin : i < n) (ho : ops[i]? = some o) (hni : listed.getD i true = false) (hr : ∀ e ∈ o.after, Region.binds .any e = true → listed.getD e.on true = true)
  (h : RegInvN ops n φ a0 w0 listed a w) (hs : Same (fun _ => True) w w') (hv : ∀ u, u i = v → (∀ j, waits o j = true → u j = valsOf ops a j) → φ i u w') : RegInvN ops n φ a0 w0 (listed.setIfInBounds i true) (a.put o.dst v) w' := by
 have hi : i < ops.size := (Array.getElem?_eq_some_iff.1 ho).1;obtain ⟨hback, ⟨d, hd⟩, hdist⟩ := plainN_at hp hin ho;have hdl : d < a.tmps.size := by rw [h.size]; exact hsz i o d ho hd
 have hset := set_getD (listed := listed) (i := i) (by omega);refine ⟨by rw [hd]; exact h.defers, by rw [hd]; simp [Act.put]; exact h.size, h.same.trans hs, ?_, ?_, ?_, ?_⟩
 ·intro k hk
  have hkd : d ≠ k := by
   intro e;exact hk i o ho (by rw [hset, if_pos rfl]) (by rw [hd, e])
  have : (a.put o.dst v).tmps[k]? = a.tmps[k]? := by
   rw [hd];simp only [Act.put, Array.getElem?_setIfInBounds, if_neg hkd]
  rw [this];refine h.kept k fun j oj hoj hlj => hk j oj hoj ?_
  rw [hset]; split
  ·rfl
  ·exact hlj
 ·intro j hj hlj;rw [hset] at hlj
  have hval : ∀ k, k < n → k ≠ i → valsOf ops (a.put o.dst v) k = valsOf ops a k := fun k hk hki => by
   unfold valsOf;rw [hd, getD_put _ _ _ _ hdl, if_neg (fun e => hdist k hk hki (by rw [slot_of ho hd]; exact e.symm))]
  by_cases hij : i = j
  ·subst hij;refine hv _ ?_ fun k hk => ?_
   ·unfold valsOf;rw [hd, getD_put _ _ _ _ hdl, if_pos (slot_of ho hd).symm]
   ·simp only [waits, List.any_eq_true, Bool.and_eq_true, beq_iff_eq, Array.mem_toList_iff] at hk;obtain ⟨e, he, h2, h3⟩ := hk;have := hback e he h3;exact hval k (by omega) (by omega)
  ·rw [if_neg hij] at hlj;refine hstab _ _ _ _ (hdep _ _ _ _ (h.done j hj hlj) (hval j hj fun e => hij e.symm).symm fun k hk => ?_) hs
   obtain ⟨oj, hoj⟩ : ∃ oj, ops[j]? = some oj := by
    cases e : ops[j]? with
    | none => simp [waitsAt, e] at hk
    | some oj => exact ⟨oj, rfl⟩
   simp only [waitsAt, hoj, Option.map_some, Option.getD_some, waits, List.any_eq_true, Bool.and_eq_true, beq_iff_eq, Array.mem_toList_iff] at hk;obtain ⟨e, he, h2, h3⟩ := hk;have hk1 := (plainN_at hp hj hoj).1 e he h3;refine (hval k (by omega) fun e' => ?_).symm;have := h.down j oj e hoj hlj he h3;rw [h2, e', hni] at this;cases this
 ·intro j oj e hoj hlj he hb;rw [hset] at hlj ⊢;split
  ·rfl
  ·by_cases hij : i = j
   ·subst hij;rw [ho] at hoj;injection hoj with hoj;subst hoj;exact hr e he hb
   ·rw [if_neg hij] at hlj;exact h.down j oj e hoj hlj he hb
 ·intro t ht hts;rw [hset, if_neg (by omega)];exact h.tail t ht hts
theorem headArr_eq {listed : Array Bool} {s k d : Nat} (hs : listed.size = s) (h : ∀ j, j < s → listed.getD j true = (decide (j < k) && decide (j ≠ d))) : listed = headArr s k d := by
 apply Array.ext
 ·simp [headArr, hs]
 ·intro i h1 h2;have := h i (by omega);rw [Array.getD_eq_getD_getElem?, Array.getElem?_eq_getElem h1, Option.getD_some] at this;rw [this];simp [headArr]
/-- The ending's obligations. -/
structure TailDoes (P : Program) (l : List Oper) (n d : Nat) (φ : Nat → (Nat → Value) → World → Prop) (a0 : Act) (w0 : World) (Q : Exit → Act → World → Prop) : Prop where
 all : ∀ a w, Same (fun _ => True) w0 w → a.defers = a0.defers → a.tmps.size = a0.tmps.size → (∀ k, (∀ j, j < n → slotOf l.toArray j ≠ k) → a.tmps.getD k undef = a0.tmps.getD k undef) →
  (∀ j, j < n → φ j (valsOf l.toArray a) w) → wpList P l.toArray Q (l.drop n) a w
 but : ∀ od on, l[d]? = some od → l[n]? = some on → ∀ a w, Same (fun _ => True) w0 w → a.defers = a0.defers → a.tmps.size = a0.tmps.size → (∀ k, (∀ j, j < n → j ≠ d → slotOf l.toArray j ≠ k) → a.tmps.getD k undef = a0.tmps.getD k undef) →
  (∀ j, j < n → j ≠ d → φ j (valsOf l.toArray a) w) → wpList P l.toArray Q (on :: od :: l.drop (n + 1)) a w
theorem wpAny_tail {l : List Oper} {d : Nat} (hB : tailB l.toArray n d = true) (hstab : ∀ i v w w', φ i v w → Same (fun _ => True) w w' → φ i v w') (hdep : ∀ i u v w, φ i u w → u i = v i → (∀ j, waitsAt l.toArray i j = true → u j = v j) → φ i v w) (hsz : ∀ (i : Nat) (o : Oper) (d : Nat), l.toArray[i]? = some o → o.dst = some d → d < a0.tmps.size)
  (hstep : ∀ i o, i < n → l.toArray[i]? = some o → OpDoes2 P l.toArray φ a0 w0 Q i o) (hend : TailDoes P l n d φ a0 w0 Q) :
  ∀ (fuel : Nat) (listed : Array Bool) (a : Act) (w : World), listed.size = l.toArray.size → ((List.range n).filter fun i => !listed.getD i true).length = fuel →
   RegInvN l.toArray n φ a0 w0 listed a w → wpAny P .any l.toArray Q (fuel + (l.toArray.size - n)) listed a w := by
 simp only [tailB, Bool.and_eq_true, decide_eq_true_eq, Bool.or_eq_true] at hB;obtain ⟨⟨⟨⟨hn, hp⟩, hlate⟩, hseq⟩, hd⟩ := hB;have hlen : l.toArray.size = l.length := by simp
 have late : ∀ t, n ≤ t → t < l.toArray.size → ∀ i, i < n → i ≠ d → reachB l.toArray 12 t i = true := by
  intro t ht hts i hi hid;have h := List.all_eq_true.1 hlate t (List.mem_range.2 hts);simp only [Bool.or_eq_true, decide_eq_true_eq, List.all_eq_true, List.mem_range] at h;rcases h with h | h
  ·omega
  ·exact (h i hi).resolve_left hid
 have reach : ∀ {listed : Array Bool} {a : Act} {w : World}, RegInvN l.toArray n φ a0 w0 listed a w → ∀ (f t i : Nat), (∀ ot, l.toArray[t]? = some ot → ∀ e ∈ ot.after, Region.binds .any e = true → listed.getD e.on true = true) → reachB l.toArray f t i = true → listed.getD i true = true := by
  intro listed a w h f
  have one : ∀ t i, (∀ ot, l.toArray[t]? = some ot → ∀ e ∈ ot.after, Region.binds .any e = true → listed.getD e.on true = true) → waitsAt l.toArray t i = true → listed.getD i true = true := by
   intro t i ht hw
   obtain ⟨ot, hot⟩ : ∃ ot, l.toArray[t]? = some ot := by
    cases e : l.toArray[t]? with
    | none => simp [waitsAt, e] at hw
    | some ot => exact ⟨ot, rfl⟩
   simp only [waitsAt, hot, Option.map_some, Option.getD_some, waits, List.any_eq_true, Bool.and_eq_true, beq_iff_eq, Array.mem_toList_iff] at hw;obtain ⟨e, he, h2, h3⟩ := hw;rw [← h2];exact ht ot hot e he h3
  induction f with
  | zero => exact one
  | succ f ihf =>
   intro t i ht hr;simp only [reachB, Bool.or_eq_true, List.any_eq_true, List.mem_range, Bool.and_eq_true] at hr;rcases hr with hr | ⟨j, hj, h1, h2⟩
   ·exact one t i ht hr
   ·exact ihf j i (fun oj hoj e he hb => h.down j oj e hoj (one t j ht h1) he hb) h2
 have slots : ∀ {listed : Array Bool} {a : Act} {w : World} (D : Nat), RegInvN l.toArray n φ a0 w0 listed a w → (∀ j, j < n → listed.getD j true = true → j ≠ D) → ∀ k, (∀ j, j < n → j ≠ D → slotOf l.toArray j ≠ k) → a.tmps.getD k undef = a0.tmps.getD k undef := by
  intro listed a w D h hD k hk
  have : a.tmps[k]? = a0.tmps[k]? := by
   refine h.kept k fun j oj hoj hlj e => ?_
   rcases Nat.lt_or_ge j n with hj | hj
   ·exact hk j hj (hD j hj hlj) (slot_of hoj e)
   ·rw [h.tail j hj (Array.getElem?_eq_some_iff.1 hoj).1] at hlj;cases hlj
  simp [Array.getD_eq_getD_getElem?, this]
 intro fuel
 induction fuel with
 | zero =>
  intro listed a w hl hc h
  have hall : ∀ j, j < n → listed.getD j true = true := by
   intro j hj;have hf := List.eq_nil_of_length_eq_zero hc;rw [List.filter_eq_nil_iff] at hf;have := hf j (List.mem_range.2 hj);simpa using this
  have he : listed = headArr l.toArray.size n l.toArray.size := headArr_eq hl fun j hj => by
   rcases Nat.lt_or_ge j n with h1 | h1
   ·rw [hall j h1]; simp [h1]; simp at hj; omega
   ·rw [h.tail j h1 hj]; simp; omega
  rw [Nat.zero_add];have hdl : (l.drop n).length = l.toArray.size - n := by simp
  have := wpAny_of_seq (P := P) (md := .any) (ops := l.toArray) (Q' := Q) (l.drop n) n listed a w (fun j => by simp [List.getElem?_drop]) (by rw [hdl, he]; exact hseq)
   (hend.all a w h.same h.defers h.size (fun k hk => slots l.toArray.size h (fun j hj _ => by omega) k fun j hj _ => hk j hj) fun j hj => h.done j hj (hall j hj))
  rwa [hdl] at this
 | succ fuel ih =>
  intro listed a w hl hc h;rw [show fuel + 1 + (l.toArray.size - n) = (fuel + (l.toArray.size - n)) + 1 by omega]
  have hex : ∃ j, j < n ∧ listed.getD j true = false := by
   have : 0 < ((List.range n).filter fun i => !listed.getD i true).length := by omega
   obtain ⟨j, hj⟩ := List.exists_mem_of_length_pos this;rw [List.mem_filter, List.mem_range] at hj;exact ⟨j, hj.1, by simpa using hj.2⟩
  refine ⟨fun hr => ?_, fun i hi => ?_⟩
  ·exfalso
   have key : ∀ i, i < n → listed.getD i true = true := by
    intro i
    induction i using Nat.strongRecOn with
    | _ i ihi =>
     intro hi;cases hli : listed.getD i true with
     | true => rfl
     | false =>
      exfalso;obtain ⟨o, ho⟩ : ∃ o, l.toArray[i]? = some o := ⟨_, Array.getElem?_eq_getElem (by omega)⟩
      have : i ∈ Region.ready .any l.toArray listed := by
       unfold Region.ready;rw [List.mem_filter];refine ⟨List.mem_range.2 (by omega), ?_⟩;rw [ho, hli];simp only [Bool.not_false, Bool.true_and, Option.map_some, Option.getD_some, Array.all_eq_true_iff_forall_mem];intro e he;by_cases hb : Region.binds .any e = true
       ·have hlt := (plainN_at hp hi ho).1 e he hb;have hz : listed.getD e.on false = true := getD_one (by omega) (ihi e.on hlt (by omega));rw [hz]; simp
       ·simp [hb]
      rw [hr] at this;cases this
   obtain ⟨j, hj, hjf⟩ := hex;rw [key j hj] at hjf;cases hjf
  have hi0 := hi;unfold Region.ready at hi;rw [List.mem_filter] at hi;obtain ⟨hi, hrd⟩ := hi;have hi := List.mem_range.1 hi;obtain ⟨o, ho⟩ : ∃ o, l.toArray[i]? = some o := ⟨_, Array.getElem?_eq_getElem hi⟩;rw [ho] at hrd;simp only [Bool.and_eq_true, Bool.not_eq_true', Option.map_some, Option.getD_some, Array.all_eq_true_iff_forall_mem] at hrd;obtain ⟨hni, hrd⟩ := hrd
  have hrr : ∀ e ∈ o.after, Region.binds .any e = true → listed.getD e.on true = true := by
   intro e he hb;have := hrd e he;rw [hb] at this;exact getD_two (by simpa using this)
  by_cases hin : i < n
  ·refine wpOp_step ho fun K hK => ?_
   refine hstep i o hin ho a w h.same h.defers h.size (fun d hd => ?_) (fun j hj => ?_) K (fun v w' hv hs => hK _ _ ?_)
   ·have : a.tmps[d]? = a0.tmps[d]? := by
     refine h.kept d fun j oj hoj hlj e => ?_
     have hm : oj ∈ l.toArray.toList := by
      rw [Array.mem_toList_iff];exact Array.mem_of_getElem? hoj
     have := List.all_eq_true.1 hd oj hm;simp only [e, beq_self_eq_true, Bool.not_true, Bool.false_or, waits, List.any_eq_true, Bool.and_eq_true, beq_iff_eq, Array.mem_toList_iff] at this;obtain ⟨ed, h1, h2, h3⟩ := this;have := h.down j oj ed hoj hlj h1 h3;rw [h2, hni] at this;cases this
    simp [Array.getD_eq_getD_getElem?, this]
   ·simp only [waits, List.any_eq_true, Bool.and_eq_true, beq_iff_eq, Array.mem_toList_iff] at hj;obtain ⟨e, he, h2, h3⟩ := hj;have hlt := (plainN_at hp hin ho).1 e he h3;exact h.done j (by omega) (by rw [← h2]; exact hrr e he h3)
   ·refine ih _ _ _ (by simpa using hl) ?_ (RegInvN.step hp hstab hdep hsz hl hin ho hni hrr h hs hv);refine count_less (i := i) (p := fun i => !listed.getD i true) hin (by rw [hni]; rfl) (fun j => ?_) hc;show (!(listed.setIfInBounds i true).getD j true) = _;rw [set_getD (by omega)];by_cases hij : i = j
    ·subst hij; simp
    ·rw [if_neg hij];have : (j != i) = true := by simpa using fun e : j = i => hij e.symm
     rw [this, Bool.and_true]
  ·have hbut : ∀ j, j < n → j ≠ d → listed.getD j true = true := by
    intro j hj hjd
    exact reach h 12 i j (fun ot hot e he hb => by
     rw [ho] at hot;injection hot with hot;subst hot
     exact hrr e he hb) (late i (by omega) hi j hj hjd)
   obtain ⟨j, hj, hjf⟩ := hex
   have hjd : j = d := by
    by_cases e : j = d
    ·exact e
    ·rw [hbut j hj e] at hjf; cases hjf
   subst hjd;rcases hd with hd | ⟨⟨hr1, hr2⟩, hseq2⟩
   ·omega
   have he : listed = headArr l.toArray.size n j := headArr_eq hl fun k hk => by
    rcases Nat.lt_or_ge k n with h1 | h1
    ·by_cases hkj : k = j
     ·subst hkj; rw [hjf]; simp
     ·rw [hbut k h1 hkj]; simp [h1, hkj]
    ·rw [h.tail k h1 hk]; simp; omega
   have hf0 : fuel = 0 := by
    have : ((List.range n).filter fun i => !listed.getD i true) = (List.range n).filter fun i => decide (i = j) := by
     apply List.filter_congr;intro k hk;have hk := List.mem_range.1 hk;by_cases hkj : k = j
     ·subst hkj; simp [hjf]
     ·simp [hbut k hk hkj, hkj]
    rw [this] at hc
    have h1 : ((List.range n).filter fun i => decide (i = j)).length ≤ 1 := by
     have := List.nodup_range (n := n)
     have e : ((List.range n).filter fun i => decide (i = j)) = (List.range n).filter (· == j) := by
      apply List.filter_congr; intro k _; by_cases h : k = j <;> simp [h]
     rw [e, ← List.count_eq_length_filter];exact List.nodup_iff_count.1 this j
    omega
   subst hf0
   have hin' : i = n := by
    rw [he, hr1] at hi0;simp at hi0;omega
   subst hin';obtain ⟨od, hod⟩ : ∃ od, l.toArray[j]? = some od := ⟨_, Array.getElem?_eq_getElem (by omega)⟩;have hw := hend.but od o (by simpa using hod) (by simpa using ho) a w h.same h.defers h.size (slots j h fun k hk hlk e => by subst e; rw [hjf] at hlk; cases hlk) fun k hk hkj => h.done k hk (hbut k hk hkj)
   have hw1 : wpOp P l.toArray Q i (wpList P l.toArray Q (od :: l.drop (i + 1))) a w := by unfold wpOp; simp only [ho]; exact hw
   refine wpOp_mono (fun a' w' h' => ?_) hw1;rw [Nat.zero_add];obtain ⟨g, hg⟩ : ∃ g, l.toArray.size - i = g + 1 := ⟨l.toArray.size - i - 1, by omega⟩;rw [hg];refine ⟨fun h1 => ?_, fun k hk => ?_⟩
   ·rw [he, hr2] at h1; cases h1
   ·rw [he, hr2] at hk;obtain rfl : k = j := by simpa using hk
    have hw2 : wpOp P l.toArray Q k (wpList P l.toArray Q (l.drop (i + 1))) a' w' := by unfold wpOp; simp only [hod]; exact h'
    refine wpOp_mono (fun a'' w'' h'' => ?_) hw2;have hdl : (l.drop (i + 1)).length = g := by rw [List.length_drop]; omega
    have := wpAny_of_seq (P := P) (md := .any) (ops := l.toArray) (Q' := Q) (l.drop (i + 1)) (i + 1) ((listed.setIfInBounds i true).setIfInBounds k true) a'' w'' (fun j => by simp)
     (by rw [hdl, he, show g = l.toArray.size - i - 1 by omega]; exact hseq2) h''
    rwa [hdl] at this
end
/-- The frame is what the listed operations' slots hold, laid one after the other. -/
theorem act_putAll {lj : List Oper} {a a0 : Act} (hd : a.defers = a0.defers) (hs : a.tmps.size = a0.tmps.size) (hsome : ∀ o ∈ lj, ∃ d, o.dst = some d) (hne : lj.Pairwise fun x y => x.dst ≠ y.dst)
  (hot : ∀ d, (∀ o ∈ lj, o.dst ≠ some d) → a.tmps.getD d undef = a0.tmps.getD d undef) : a = putAll a0 lj (lj.map fun o => a.tmps.getD (o.dst.getD 0) undef) := by
 refine act_ext (by rw [hd, putAll_defers]) (by rw [hs, putAll_size]) (fun d hdl => ?_);by_cases h : ∃ (j : Nat) (hj : j < lj.length), lj[j].dst = some d
 ·obtain ⟨j, hj, hjd⟩ := h;rw [putAll_at lj _ a0 j hj (by simpa using hj) hjd (fun k hk hjk hkd => ?_) (by rw [← hs]; exact hdl)]
  ·simp [hjd]
  ·exact List.pairwise_iff_getElem.1 hne j k hj hk hjk (by rw [hjd, hkd])
 ·rw [putAll_other lj _ a0 (fun o ho hod => h (by
   obtain ⟨j, hj, rfl⟩ := List.mem_iff_getElem.1 ho
   exact ⟨j, hj, hod⟩))]
  exact hot d fun o ho hod => h (by
   obtain ⟨j, hj, rfl⟩ := List.mem_iff_getElem.1 ho
   exact ⟨j, hj, hod⟩)
/-- A predicate on a value (and on that of an operation waited for, number k) that later worlds keep. -/
structure SP2 where
 k : Option Nat
 p : Value → Value → World → Prop
 st : ∀ u v w w', p u v w → Same (fun _ => True) w w' → p u v w'
def SP2.of (s : SP) : SP2 := ⟨none, fun v _ w => s.p v w, fun u _ w w' h k => s.st u w w' h k⟩
def SP2.eq (u : Value) : SP2 := ⟨none, fun v _ _ => v = u, fun _ _ _ _ h _ => h⟩
def SP2.any : SP2 := ⟨none, fun _ _ _ => True, fun _ _ _ _ _ _ => tv⟩
def SP2.q (s : SP2) (v : Value) (u : Nat → Value) (w : World) : Prop := match s.k with | none => s.p v undef w | some k => s.p v (u k) w
def spAt (L : List SP2) (i : Nat) : SP2 := L.getD i SP2.any
def phi2 (L : List SP2) (i : Nat) (u : Nat → Value) (w : World) : Prop := (spAt L i).q (u i) u w
/-- The predicates speak of no other operation than one that is waited for. -/
def linksB (ops : Array Oper) (L : List SP2) : Bool := (List.range L.length).all fun i => match (spAt L i).k with | none => true | some k => waitsAt ops i k
theorem phi2_st (L : List SP2) : ∀ i v w w', phi2 L i v w → Same (fun _ => True) w w' → phi2 L i v w' := fun i v w w' h k => by
 unfold phi2 SP2.q at *;split at h <;> exact (spAt L i).st _ _ _ _ h k
theorem links_at {ops : Array Oper} {L : List SP2} (h : linksB ops L = true) {i k : Nat} (hk : (spAt L i).k = some k) : waitsAt ops i k = true := by
 rcases Nat.lt_or_ge i L.length with hi | hi
 ·have := List.all_eq_true.1 h i (List.mem_range.2 hi);rw [hk] at this;exact this
 ·have : spAt L i = SP2.any := by simp [spAt, hi]
  rw [this] at hk;cases hk
theorem phi2_dep {ops : Array Oper} {L : List SP2} (hl : linksB ops L = true) : ∀ i u v w, phi2 L i u w → u i = v i → (∀ j, waitsAt ops i j = true → u j = v j) → phi2 L i v w := fun i u v w h h1 h2 => by
 unfold phi2 SP2.q at *;cases hk : (spAt L i).k with
 | none => rw [hk] at h; simpa [h1] using h
 | some k =>
  rw [hk] at h;have := h2 k (links_at hl hk);simpa [h1, this] using h
/-- What an operation is shown to do. -/
def OpDoesL (P : Program) (ops : Array Oper) (L : List SP2) (a0 : Act) (w0 : World) (Q : Exit → Act → World → Prop) (i : Nat) (o : Oper) : Prop :=
 ∀ (a : Act) (w : World), Same (fun _ => True) w0 w → a.defers = a0.defers → a.tmps.size = a0.tmps.size →
  (∀ d, freeAt ops i d = true → a.tmps.getD d undef = a0.tmps.getD d undef) →
  (∀ j, waits o j = true → phi2 L j (valsOf ops a) w) →
  ∀ K : Act → World → Prop, (∀ v w', (spAt L i).q v (valsOf ops a) w' → Same (fun _ => True) w w' → K (a.put o.dst v) w') →
   if Region.wanted o (yielded ops a.tmps) = true then Oper.wp P o a w K Q else K (a.put o.dst undef) w
theorem OpDoesL.two {P : Program} {ops : Array Oper} {L : List SP2} {a0 : Act} {w0 : World} {Q : Exit → Act → World → Prop} {i : Nat} {o : Oper} (hl : linksB ops L = true) (ho : ops[i]? = some o) (h : OpDoesL P ops L a0 w0 Q i o) : OpDoes2 P ops (phi2 L) a0 w0 Q i o := by
 intro a w h1 h2 h3 h4 h5 K hK;refine h a w h1 h2 h3 h4 h5 K fun v w' hv hs => hK v w' (fun u hu hj => ?_) hs
 unfold phi2 SP2.q at *;cases hk : (spAt L i).k with
 | none => rw [hk] at hv; simpa [hu] using hv
 | some k =>
  rw [hk] at hv;have hw := links_at hl hk;simp only [waitsAt, ho, Option.map_some, Option.getD_some] at hw;simpa [hu, hj k hw] using hv
def OpsDoL (P : Program) (ops : Array Oper) (L : List SP2) (a0 : Act) (w0 : World) (Q : Exit → Act → World → Prop) : Nat → List Oper → Prop
 | _, [] => True
 | k, o :: l => OpDoesL P ops L a0 w0 Q k o ∧ OpsDoL P ops L a0 w0 Q (k + 1) l
theorem OpsDoL.at_ {P : Program} {ops : Array Oper} {L : List SP2} {a0 : Act} {w0 : World} {Q : Exit → Act → World → Prop} : ∀ (l : List Oper) (k : Nat), OpsDoL P ops L a0 w0 Q k l → ∀ i o, l[i]? = some o → OpDoesL P ops L a0 w0 Q (k + i) o
 | [], _, _, i, o, h => by simp at h
 | o' :: l, k, h, 0, o, ho => by simp at ho; subst ho; exact h.1
 | o' :: l, k, h, i + 1, o, ho => by
  have := OpsDoL.at_ l (k + 1) h.2 i o (by simpa using ho);rwa [show k + (i + 1) = k + 1 + i from by omega]
section
variable {P : Program} {l : List Oper} {n d id : Nat} {L : List SP2} {a0 : Act} {w0 : World} {Q : Exit → Act → World → Prop}
theorem tailB_parts (hB : tailB l.toArray n d = true) : n < l.length ∧ plainN l.toArray n = true := by
 simp only [tailB, Bool.and_eq_true, decide_eq_true_eq] at hB;exact ⟨by simpa using hB.1.1.1.1, hB.1.1.1.2⟩
theorem heads_facts (hB : tailB l.toArray n d = true) : (∀ o ∈ l.take n, ∃ d, o.dst = some d) ∧ ((l.take n).Pairwise fun x y => x.dst ≠ y.dst) ∧ ∀ j (hj : j < n) (hj' : j < (l.take n).length), slotOf l.toArray j = ((l.take n)[j].dst).getD 0 ∧ (l.take n)[j].dst = some (slotOf l.toArray j) := by
 obtain ⟨hn, hp⟩ := tailB_parts hB
 have hat : ∀ j (hj : j < n) (hj' : j < (l.take n).length), slotOf l.toArray j = ((l.take n)[j].dst).getD 0 ∧ (l.take n)[j].dst = some (slotOf l.toArray j) := by
  intro j hj hj';obtain ⟨-, ⟨k, hk⟩, -⟩ := plainN_at hp hj (show l.toArray[j]? = some (l[j]'(by omega)) by simp);have e := slot_of (ops := l.toArray) (show l.toArray[j]? = some (l[j]'(by omega)) by simp) hk;rw [List.getElem_take, e, hk];exact ⟨rfl, rfl⟩
 refine ⟨fun o ho => ?_, ?_, hat⟩
 ·obtain ⟨j, hj, rfl⟩ := List.mem_iff_getElem.1 ho;exact ⟨_, (hat j (by rw [List.length_take] at hj; omega) hj).2⟩
 ·rw [List.pairwise_iff_getElem];intro i j hi hj hij e;have hi' : i < n := by rw [List.length_take] at hi; omega
  have hj' : j < n := by rw [List.length_take] at hj; omega
  rw [(hat i hi' hi).2, (hat j hj' hj).2] at e;injection e with e;exact (plainN_at hp hj' (show l.toArray[j]? = some (l[j]'(by omega)) by simp)).2.2 i hi' (by omega) e
theorem region_start (hm : P.follows .mixedOrders = true) {φ : Nat → (Nat → Value) → World → Prop} (hB : tailB l.toArray n d = true) (hsz : (l.all fun o => (o.dst.map fun d => decide (d < a0.tmps.size)).getD true) = true) (hstab : ∀ i v w w', φ i v w → Same (fun _ => True) w w' → φ i v w') (hdep : ∀ i u v w, φ i u w → u i = v i → (∀ j, waitsAt l.toArray i j = true → u j = v j) → φ i v w)
  (hstep : ∀ i o, i < n → l.toArray[i]? = some o → OpDoes2 P l.toArray φ a0 w0 Q i o) (hend : TailDoes P l n d φ a0 w0 Q) : (Code.region id l.toArray true).wp P Q a0 w0 := by
 obtain ⟨hn, hp⟩ := tailB_parts hB;refine wp_region_any hm ?_
 have hcount : ((List.range n).filter fun i => !(Array.replicate l.toArray.size false).getD i true).length = n := by
  have : ((List.range n).filter fun i => !(Array.replicate l.toArray.size false).getD i true) = List.range n := by
   rw [List.filter_eq_self];intro i hi;have := List.mem_range.1 hi;have : i < l.length := by omega
   simp [Array.getD_eq_getD_getElem?, this]
  rw [this, List.length_range]
 have := wpAny_tail (w0 := w0) (φ := φ) hB hstab hdep (fun i o k ho hk => ?_) hstep hend n (Array.replicate l.toArray.size false) a0 { w0 with drawn := w0.drawn + 1 } (by simp) hcount ?_
 ·rwa [show n + (l.toArray.size - n) = l.toArray.size by simp; omega] at this
 ·have hmem : o ∈ l := by
   have : o ∈ l.toArray.toList := by rw [Array.mem_toList_iff]; exact Array.mem_of_getElem? ho
   simpa using this
  have := List.all_eq_true.1 hsz o hmem;rw [hk] at this;simpa using this
 ·refine ⟨rfl, rfl, SR.drew, fun _ _ => rfl, fun j hj h => ?_, fun j o e ho h => ?_, fun t h1 h2 => ?_⟩
  ·have : j < l.length := by omega
   simp [Array.getD_eq_getD_getElem?, this] at h
  ·have hj := (Array.getElem?_eq_some_iff.1 ho).1;have hj : j < l.length := by simpa using hj
   simp [Array.getD_eq_getD_getElem?, hj] at h
  ·have h2 : t < l.length := by simpa using h2
   simp [Array.getD_eq_getD_getElem?, h2]
/-- One of the first operations may come behind the first of the last ones (of the others' predicates none speaks of another operation). -/
theorem wp_region_tail_d {od on : Oper} (n d : Nat) (hd : d < n) (hm : P.follows .mixedOrders = true) (hB : tailB l.toArray n d = true) (hL : L.length = n) (hlk : linksB l.toArray L = true) (hone : ((L.eraseIdx d).all fun s => s.k.isNone) = true) (hod : l[d]? = some od) (hon : l[n]? = some on)
  (hsz : (l.all fun o => (o.dst.map fun d => decide (d < a0.tmps.size)).getD true) = true) (hstep : OpsDoL P l.toArray L a0 w0 Q 0 (l.take n))
  (hA : ∀ vs w, vs.length = n → (∀ j, j < n → (spAt L j).q (vs.getD j undef) (fun k => vs.getD k undef) w) → Same (fun _ => True) w0 w → wpList P l.toArray Q (l.drop n) (putAll a0 (l.take n) vs) w)
  (hD : ∀ vs w, vs.length = n - 1 → (∀ j, j < n - 1 → (spAt (L.eraseIdx d) j).p (vs.getD j undef) undef w) → Same (fun _ => True) w0 w → wpList P l.toArray Q (on :: od :: l.drop (n + 1)) (putAll a0 ((l.take n).eraseIdx d) vs) w) : (Code.region id l.toArray true).wp P Q a0 w0 := by
 obtain ⟨hn, hp⟩ := tailB_parts hB;obtain ⟨f1, f2, f3⟩ := heads_facts hB;have hln : (l.take n).length = n := by rw [List.length_take]; omega
 have hle : ((l.take n).eraseIdx d).length = n - 1 := by rw [List.length_eraseIdx, if_pos (by omega), hln]
 have hkn : ∀ j, j ≠ d → (spAt L j).k = none := fun j hjd => by
  rcases Nat.lt_or_ge j L.length with hj | hj
  ·have := List.all_eq_true.1 hone L[j] (by rw [List.mem_eraseIdx_iff_getElem]; exact ⟨j, hj, hjd, rfl⟩);have e : spAt L j = L[j] := by simp [spAt, hj]
   rw [e]; simpa using this
  ·have e : spAt L j = SP2.any := by simp [spAt, hj]
   rw [e]; rfl
 have hph : ∀ j u w, j ≠ d → phi2 L j u w → (spAt L j).p (u j) undef w := fun j u w hjd h => by
  unfold phi2 SP2.q at h;rw [hkn j hjd] at h;exact h
 refine region_start (φ := phi2 L) hm hB hsz (phi2_st L) (phi2_dep hlk) (fun i o hi ho => ?_) ⟨fun a w h1 h2 h3 h4 h5 => ?_, fun od' on' h h' a w h1 h2 h3 h4 h5 => ?_⟩
 ·have := OpsDoL.at_ (l.take n) 0 hstep i o (by rw [List.getElem?_take, if_pos hi]; simpa using ho);rw [Nat.zero_add] at this;exact this.two hlk ho
 ·have hval : ∀ j, j < n → ((l.take n).map fun o => a.tmps.getD (o.dst.getD 0) undef).getD j undef = valsOf l.toArray a j := fun j hj => by
   unfold valsOf;rw [(f3 j hj (by omega)).1];have hj2 : j < l.length := by omega
   simp [List.getD_eq_getElem?_getD, hj, hj2]
  rw [act_putAll (a := a) (a0 := a0) (lj := l.take n) h2 h3 f1 f2 fun k hk => h4 k fun j hj e => ?_]
  ·refine hA _ w (by rw [List.length_map, hln]) (fun j hj => ?_) h1;have h := phi2_dep hlk j _ (fun k => ((l.take n).map fun o => a.tmps.getD (o.dst.getD 0) undef).getD k undef) w (h5 j hj) (hval j hj).symm fun k hk => (hval k ?_).symm
   ·exact h
   ·obtain ⟨oj, hoj⟩ : ∃ oj, l.toArray[j]? = some oj := by
     cases e : l.toArray[j]? with
     | none => simp [waitsAt, e] at hk
     | some oj => exact ⟨oj, rfl⟩
    simp only [waitsAt, hoj, Option.map_some, Option.getD_some, waits, List.any_eq_true, Bool.and_eq_true, beq_iff_eq, Array.mem_toList_iff] at hk;obtain ⟨e, he, h2, h3⟩ := hk;have := (plainN_at hp hj hoj).1 e he h3;omega
  ·refine hk ((l.take n)[j]'(by omega)) (List.getElem_mem _) ?_;rw [(f3 j hj (by omega)).2, e]
 ·obtain rfl : od' = od := by rw [hod] at h; exact (Option.some.inj h).symm
  obtain rfl : on' = on := by rw [hon] at h'; exact (Option.some.inj h').symm
  rw [act_putAll (a := a) (a0 := a0) (lj := (l.take n).eraseIdx d) h2 h3 (fun o ho => f1 o (List.mem_of_mem_eraseIdx ho)) (f2.sublist (List.eraseIdx_sublist _ _)) fun k hk => h4 k fun j hj hjd e => ?_]
  ·refine hD _ w (by rw [List.length_map, hle]) (fun j hj => ?_) h1
   have hsp : ∀ i, i < n → i ≠ d → (spAt L i).p (a.tmps.getD ((((l.take n)[i]?).bind (·.dst)).getD 0) undef) undef w := fun i hi hid => by
    have := hph i _ w hid (h5 i hi hid);unfold valsOf at this;rw [(f3 i hi (by omega)).1] at this;rw [List.getElem?_eq_getElem (by omega)];exact this
   have hgd : (((l.take n).eraseIdx d).map fun o => a.tmps.getD (o.dst.getD 0) undef).getD j undef = a.tmps.getD ((((l.take n).eraseIdx d)[j]?.bind (·.dst)).getD 0) undef := by
    have : j < ((l.take n).eraseIdx d).length := by omega
    rw [List.getD_eq_getElem?_getD, List.getElem?_map, List.getElem?_eq_getElem this];rfl
   rw [hgd, List.getElem?_eraseIdx]
   have hLe : spAt (L.eraseIdx d) j = spAt L (if j < d then j else j + 1) := by
    unfold spAt;rw [List.getD_eq_getElem?_getD, List.getD_eq_getElem?_getD, List.getElem?_eraseIdx];split <;> rfl
   rw [hLe];split
   ·exact hsp j (by omega) (by omega)
   ·exact hsp (j + 1) (by omega) (by omega)
  ·refine hk ((l.take n)[j]'(by omega)) ?_ ?_
   ·rw [List.mem_eraseIdx_iff_getElem];exact ⟨j, by omega, hjd, rfl⟩
   ·rw [(f3 j hj (by omega)).2, e]
end
/-- One more is done. -/
def also (f : Nat → Bool) (i : Nat) : Nat → Bool := fun j => if i = j then true else f j
/-- What an operation is shown to do. -/
def OpDoesS (P : Program) (ops : Array Oper) (φ : Nat → Value → World → Prop) (T : Nat → Prop) (Ψ : (Nat → Bool) → World → Prop) (a0 : Act) (w0 : World) (Q : Exit → Act → World → Prop) (i : Nat) (o : Oper) : Prop :=
 ∀ (a : Act) (w : World) (f : Nat → Bool), Same T w0 w → Ψ f w → f i = false → (∀ j, waits o j = true → f j = true) → a.defers = a0.defers → a.tmps.size = a0.tmps.size →
  (∀ d, freeAt ops i d = true → a.tmps.getD d undef = a0.tmps.getD d undef) →
  (∀ j, waits o j = true → φ j (a.tmps.getD (slotOf ops j) undef) w) →
  ∀ K : Act → World → Prop, (∀ v w', φ i v w' → Same T w w' → Ψ (also f i) w' → K (a.put o.dst v) w') →
   if Region.wanted o (yielded ops a.tmps) = true then Oper.wp P o a w K Q else K (a.put o.dst undef) w
structure StInv (ops : Array Oper) (n : Nat) (φ : Nat → Value → World → Prop) (T : Nat → Prop) (Ψ : (Nat → Bool) → World → Prop) (a0 : Act) (w0 : World) (listed : Array Bool) (a : Act) (w : World) : Prop where
 defers : a.defers = a0.defers
 size : a.tmps.size = a0.tmps.size
 same : Same T w0 w
 st : Ψ (fun j => listed.getD j true) w
 kept : ∀ d, (∀ j o, ops[j]? = some o → listed.getD j true = true → o.dst ≠ some d) → a.tmps[d]? = a0.tmps[d]?
 done : ∀ j, j < n → listed.getD j true = true → φ j (a.tmps.getD (slotOf ops j) undef) w
 down : ∀ j o e, ops[j]? = some o → listed.getD j true = true → e ∈ o.after → Region.binds .any e = true → listed.getD e.on true = true
 tail : ∀ t, n ≤ t → t < ops.size → listed.getD t true = false
section
variable {P : Program} {ops : Array Oper} {n : Nat} {φ : Nat → Value → World → Prop} {T : Nat → Prop} {Ψ : (Nat → Bool) → World → Prop} {a0 : Act} {w0 : World} {Q : Exit → Act → World → Prop}
theorem StInv.step (hp : plainN ops n = true) (hstab : ∀ i v w w', φ i v w → Same T w w' → φ i v w') (hsz : ∀ (i : Nat) (o : Oper) (d : Nat), ops[i]? = some o → o.dst = some d → d < a0.tmps.size)
  {listed : Array Bool} {a : Act} {w w' : World} {i : Nat} {o : Oper} {v : Value} (hl : listed.size = ops.size) (hin : i < n) (ho : ops[i]? = some o) (hni : listed.getD i true = false) (hr : ∀ e ∈ o.after, Region.binds .any e = true → listed.getD e.on true = true)
  (h : StInv ops n φ T Ψ a0 w0 listed a w) (hs : Same T w w') (hv : φ i v w') (hst : Ψ (also (fun j => listed.getD j true) i) w') : StInv ops n φ T Ψ a0 w0 (listed.setIfInBounds i true) (a.put o.dst v) w' := by
 have hi : i < ops.size := (Array.getElem?_eq_some_iff.1 ho).1;obtain ⟨hback, ⟨d, hd⟩, hdist⟩ := plainN_at hp hin ho;have hdl : d < a.tmps.size := by rw [h.size]; exact hsz i o d ho hd
 have hset := set_getD (listed := listed) (i := i) (by omega);refine ⟨by rw [hd]; exact h.defers, by rw [hd]; simp [Act.put]; exact h.size, h.same.trans hs, ?_, ?_, ?_, ?_, ?_⟩
 ·have e : (fun j => (listed.setIfInBounds i true).getD j true) = also (fun j => listed.getD j true) i := funext hset;rw [e];exact hst
 ·intro k hk
  have hkd : d ≠ k := by
   intro e;exact hk i o ho (by rw [hset, if_pos rfl]) (by rw [hd, e])
  have : (a.put o.dst v).tmps[k]? = a.tmps[k]? := by
   rw [hd];simp only [Act.put, Array.getElem?_setIfInBounds, if_neg hkd]
  rw [this];refine h.kept k fun j oj hoj hlj => hk j oj hoj ?_
  rw [hset]; split
  ·rfl
  ·exact hlj
 ·intro j hj hlj;rw [hset] at hlj;rw [hd, getD_put _ _ _ _ hdl];by_cases hij : i = j
  ·subst hij;rw [if_pos (slot_of ho hd).symm];exact hv
  ·rw [if_neg hij] at hlj;rw [if_neg (fun e => hdist j hj (fun e' => hij e'.symm) (by rw [slot_of ho hd]; exact e.symm))];exact hstab _ _ _ _ (h.done j hj hlj) hs
 ·intro j oj e hoj hlj he hb;rw [hset] at hlj ⊢;split
  ·rfl
  ·by_cases hij : i = j
   ·subst hij;rw [ho] at hoj;injection hoj with hoj;subst hoj;exact hr e he hb
   ·rw [if_neg hij] at hlj;exact h.down j oj e hoj hlj he hb
 ·intro t ht hts;rw [hset, if_neg (by omega)];exact h.tail t ht hts
end
/-- A predicate on a value that the region's writes keep. -/
structure SPT (T : Nat → Prop) where
 p : Value → World → Prop
 st : ∀ v w w', p v w → Same T w w' → p v w'
def SPT.eq {T : Nat → Prop} (u : Value) : SPT T := ⟨fun v _ => v = u, fun _ _ _ h _ => h⟩
def SPT.any {T : Nat → Prop} : SPT T := ⟨fun _ _ => True, fun _ _ _ _ _ => tv⟩
def stAt {T : Nat → Prop} (L : List (SPT T)) (i : Nat) : SPT T := L.getD i SPT.any
def OpDoesT (P : Program) (ops : Array Oper) {T : Nat → Prop} (L : List (SPT T)) (Ψ : (Nat → Bool) → World → Prop) (a0 : Act) (w0 : World) (Q : Exit → Act → World → Prop) (i : Nat) (o : Oper) : Prop :=
 OpDoesS P ops (fun j v w => (stAt L j).p v w) T Ψ a0 w0 Q i o
def OpsDoT (P : Program) (ops : Array Oper) {T : Nat → Prop} (L : List (SPT T)) (Ψ : (Nat → Bool) → World → Prop) (a0 : Act) (w0 : World) (Q : Exit → Act → World → Prop) : Nat → List Oper → Prop
 | _, [] => True
 | i, o :: l => OpDoesT P ops L Ψ a0 w0 Q i o ∧ OpsDoT P ops L Ψ a0 w0 Q (i + 1) l
theorem OpsDoT.at_ {P : Program} {ops : Array Oper} {T : Nat → Prop} {L : List (SPT T)} {Ψ : (Nat → Bool) → World → Prop} {a0 : Act} {w0 : World} {Q : Exit → Act → World → Prop} : ∀ (l : List Oper) (k : Nat), OpsDoT P ops L Ψ a0 w0 Q k l → ∀ i o, l[i]? = some o → OpDoesT P ops L Ψ a0 w0 Q (k + i) o
 | [], k, _, i, o, h => by simp at h
 | p :: l, k, hd, i, o, h => by
  cases i with
  | zero => simp at h; subst h; exact hd.1
  | succ i =>
   have := OpsDoT.at_ l (k + 1) hd.2 i o (by simpa using h);rwa [show k + 1 + i = k + (i + 1) by omega] at this
end Go.Proofs.YtdfojghhpdkpfaaGreatDoor
