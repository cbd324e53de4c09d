/-
  Words, plain models, laws and walks that the claims of this layer share (joined by shake.py). No condition.
-/
import Derived.Lib.AppendZerosOnto
import Derived.Lib.Overlaps
import Derived.Deep.RegionLaw
import Derived.Test.YtoldelocfmpccaaX2
set_option linter.unusedSimpArgs false
set_option linter.unusedVariables false
namespace Go.Proofs.Ytoldelocfmpccaa
open Go.RowKit
theorem X5.keepOwn {α : Type} {f : α → List Value} {n : Nat} {e e' : TypeId} {w w' : World} {S : Nat → Prop} {v : Value} {l : List α} {B size m : Nat} {x : Value} {xs : List Value} (h : X5 f n e w S v l) (ho : w.ownsRow B e' size x m xs) (hne : e ≠ e') (hs : Qa (fun k => some k ≠ x.ownBlock) w w') : X5 f n e w' S v l := by
 obtain ⟨A, c, h1, h2, h3, h4⟩ := h;refine ⟨A, c, h1, h2, h3, fun h0 => ?_⟩;obtain ⟨g, o, cur, e1, e2, e3, e4⟩ := h4 h0;refine ⟨g, o, cur, e1, e2, ?_, e4⟩;rw [hs.block g (Array.getElem?_eq_some_iff.1 e3).1 (fun hk => ?_)]
 ·exact e3
 ·rcases ho.2 with ⟨rfl, _⟩ | ⟨g', cap, cur', rfl, _, hg, _⟩
  ·cases hk
  ·injection (show some g = some g' from hk) with hk;subst hk;rw [e3] at hg;injection hg with hg;injection hg with _ hg _;exact hne hg
def QY (w : World) (B : Nat) (v : Value) (cs : List Cel) : Prop :=
 ∃ us : List Value, us.length = cs.length ∧ Qg Qj 12 64 w B v (us.zip cs) ∧ ∀ i (h : i < cs.length) (h' : i < us.length), X5 Qz 4 69 w (fun k => B ≤ k) us[i] cs[i].vers
section
variable {w w' : World} {B : Nat} {v : Value} {cs : List Cel}
theorem QY.nil (w : World) (B : Nat) : QY w B (.slice none 0 0) [] := ⟨[], rfl, Qg.nil _ _, fun i h => absurd h (Nat.not_lt_zero _)⟩
theorem QY.keepAll (h : QY w B v cs) (hs : Qa (fun _ => True) w w') : QY w' B v cs := by
 obtain ⟨us, h1, h2, h3⟩ := h;exact ⟨us, h1, h2.keepAll hs, fun i a b => (h3 i a b).keepAll hs⟩
theorem QY.keep (h : QY w B v cs) {S : Nat → Prop} (hs : Qa S w w') (hS : ∀ k, B ≤ k → k < w.heap.size → S k) : QY w' B v cs := by
 obtain ⟨us, h1, h2, h3⟩ := h;exact ⟨us, h1, h2.keep hs hS, fun i a b => (h3 i a b).keep (hs.mono fun k hk hB => hS k hB hk)⟩
theorem QY.form (h : QY w B v cs) : ∃ A c, v = .slice A cs.length c ∧ cs.length ≤ c ∧ c ≤ maxLen := by
 obtain ⟨us, h1, h2, _⟩ := h;obtain ⟨A, c, e1, e2, e3⟩ := h2.form;have e : (us.zip cs).length = cs.length := by simp [h1]
 rw [e] at e1 e2;exact ⟨A, c, e1, e2, e3⟩
theorem QY.form3 (h : QY w B v cs) : ∃ A n c, v = .slice A n c ∧ n ≤ c ∧ c ≤ maxLen := by
 obtain ⟨A, c, h1, h2, h3⟩ := h.form;exact ⟨A, _, c, h1, h2, h3⟩
theorem QY.lower {B' : Nat} (h : QY w B v cs) (hb : B' ≤ B) : QY w B' v cs := by
 obtain ⟨us, h1, h2, h3⟩ := h;exact ⟨us, h1, h2.lower hb, fun i a b => (h3 i a b).mono fun k _ hk => by omega⟩
theorem QY.reads (h : QY w B v cs) : QU w (fun k => B ≤ k) v cs := by
 obtain ⟨us, h1, h2, h3⟩ := h;exact ⟨us, h1, h2.wr.row Qp, fun i a b => (h3 i a b).row Qq⟩
end
theorem ZI : SlT Try.prog 33 64 12 128 (.agg #[.string ⟨#[]⟩, .slice none 0 0, .bool false, .int .i64 0, .int .i64 0, .int .i64 0, .int .i64 0, .int .i64 0, .int .i64 0, .int .i64 0, .bool false, .string ⟨#[]⟩]) := ⟨by kernel_rfl, by kernel_rfl, rfl, by omega⟩
theorem Xy {A : Option Addr} {n cp : Nat} (c : Cel) : ∀ u ∈ Qj (.slice A n cp, c), u.oneCell' = true := by
 intro u hu;simp only [Qj, Qn, List.cons_append, List.nil_append, List.mem_cons, List.not_mem_nil, or_false] at hu;rcases hu with rfl | rfl | rfl | rfl | rfl | rfl | rfl | rfl | rfl | rfl | rfl | rfl <;> rfl
theorem Xu {w : World} {ops : Array Oper} {rest : List Oper} {o : Oper} {a : Act} {Q : Exit → Act → World → Prop} (hgd : o.guard = none) (s x : Operand)
  (ho : o.op = .call { callee := .builtin .append, args := #[s, x], argTypes := #[33, 33] }) {B : Nat} {v : Value} {cs : List Cel} {c : Cel} {A : Option Addr} {n cp : Nat}
  (hs : a.eval s = v) {g : Nat} (hx : a.eval x = .slice (some ⟨g, 0, none⟩) 1 1) (hg : g = w.heap.size) (hown : QY w B v cs) (hu : X5 Qz 4 69 w (fun k => B ≤ k) (.slice A n cp) c.vers) (hB : B ≤ w.heap.size) (hlen : cs.length ≤ 1000000)
  (hK : ∀ v' w', QY w' B v' (cs ++ [c]) → Qa (fun k => k < B) w w' → wpList Try.prog ops Q rest (a.put o.dst v') w') : wpList Try.prog ops Q (o :: rest) a (w.alloc (.cells (Qj (.slice A n cp, c)).toArray 64)) := by
 subst hg;obtain ⟨us, u1, u2, u3⟩ := hown;have hul : (us.zip cs).length = cs.length := by simp [u1]
 have hs1 : Qa (fun _ => True) w (w.alloc (.cells (Qj (.slice A n cp, c)).toArray 64)) := SR.alloc _;have hrow := Row.new w 64 (Qj (.slice A n cp, c));have hsl := hrow.sl (size := 12) (off := 0) (n := 1) (by rw [Qp]; omega);rw [List.drop_zero, List.take_of_length_le (by rw [Qp]; omega)] at hsl;refine Zu ZI _ hgd s x ho B v (us.zip cs).length ((us.zip cs).flatMap Qj) hs (u2.keepAll hs1) _ _ 1 1 (Qj (.slice A n cp, c)) hx hsl (Xy c) (by rw [hul]; simp only [maxLen]; omega) (by rw [hul]; omega) (by simp; omega) ?_;intro v' w' h2 h3 h4;refine hK v' w' ⟨us ++ [.slice A n cp], by simp [u1], ?_, ?_⟩ ((hs1.mono fun _ _ _ => tv).trans (h3.mono fun k _ hk e' => by have := (u2.keepAll hs1).lt_ e'.symm; omega))
 ·unfold Qg;rw [List.zip_append u1, List.length_append, List.flatMap_append];simpa using h2
 ·intro i hi hi';have ho1 := u2.keepAll hs1;by_cases hlt : i < cs.length
  ·rw [List.getElem_append_left (by omega), List.getElem_append_left hlt];exact ((u3 i hlt (by omega)).keepAll hs1).keepOwn ho1 (by decide) h3
  ·have e : i = cs.length := by simp at hi; omega
   subst e;rw [List.getElem_append_right (by omega), List.getElem_append_right (by omega)];simp only [u1, Nat.sub_self, List.getElem_singleton];exact (hu.keepAll hs1).keepOwn ho1 (by decide) h3
def KZ (cs : List Cel) (w : World) (e : Ending) (w' : World) : Prop := ∃ v, e = .returned v ∧ QY w' w.heap.size v cs ∧ Qa (fun _ => True) w w'
set_option maxHeartbeats 1000000 in
theorem Wa (v : Value) (cs : List Cel) (S : Nat → Prop) (w : World) (hv : QU w S v cs) (hn : cs.length ≤ 100000) (hn2 : ∀ c ∈ cs, c.vers.length ≤ 1000000) :
  Calls Try.prog 67 #[v] w (KZ cs w) := by
 obtain ⟨A, cp, rfl, hc, hm⟩ := hv.form;have Hv := LH hv;have Hn2 := LH hn2;unfold maxLen at hm;clear hv hn2;go_enter Try.func67, Try.ntmps67;go_wp2;go_loopw [3, 5, 8] (fun l _ i wr => ∃ k : Nat, i = .int .i64 k ∧ k ≤ cs.length ∧ QY wr w.heap.size l (cs.take k) ∧ Qa (fun _ => True) w wr) (fun _ _ i _ => cs.length - (intOf i).toNat)
 case atStart => exact ⟨0, rfl, Nat.zero_le _, by rw [List.take_zero]; exact QY.nil _ _, Qa.refl _ _⟩
 case round =>
  obtain ⟨k, rfl, hk, hown, hS⟩ := hrel;have HS := LH hS;have Hown := LH hown;have hsz := hS.size;obtain ⟨Al, nl, cl, rfl, hl1, hl2⟩ := hown.form3;unfold maxLen at hl2;by_cases hlt : k < cs.length
  ·obtain ⟨ad, u, rfl, -, hvr, c0, c1, c2, c3, c4, c5, c6, c7, c8, c9, c10, c11⟩ := QU.cells12 (Hv.out.keepAll hS) hlt;obtain ⟨Au, cu, rfl, -, -⟩ := hvr.form;have x1 : (0 : Int) ≤ (k : Int) := by omega
   have x2 : (k : Int) < (cs.length : Int) := by omega
   have hab := World.block_lt_of_cell? wr _ c0;have htk : cs.take (k + 1) = cs.take k ++ [cs[k]] := List.take_succ_eq_append_getElem hlt;have hcl := Hn2.out cs[k] (List.getElem_mem hlt);have Htk := LH htk;have Hvr := LH hvr;clear hvr htk hown hS;generalize cs[k] = c at *;have g := UA (.slice Au c.vers.length cu) c S (wr.alloc (.cells (Qj (.slice Au c.vers.length cu, c)).toArray 64)) (Qw.keepAll Hvr.out (SR.alloc _)) hcl;go_wp2_with (go_at_call 65; refine Qf ?_);unfold Hid;refine g.mono ?_;rintro e w5 ⟨u', rfl, hown5, hS5⟩;obtain ⟨A5, c5', rfl, -, -⟩ := hown5.form;have hS6 := ((Qa.refl (fun _ => True) wr).alloc (.cells (Qj (.slice Au c.vers.length cu, c)).toArray 64)).trans hS5;have HS6 := LH hS6;have Hown5 := LH hown5;clear hS5 hS6 hown5 g c0 c1 c2 c3 c4 c5 c6 c7 c8 c9 c10 c11;go_wp2_with (at_builtin; refine Qf ?_);unfold Hid;refine Xu (c := c) (B := w.heap.size) rfl (.tmp 12) (.tmp 15) rfl rfl rfl rfl (Hown.out.keepAll HS6.out) (Hown5.out.wr.mono fun j _ hj => by rw [World.size_alloc] at hj; omega) (by have := HS6.out.size; omega) (by rw [List.length_take]; omega) ?_;intro v' w7 hown7 hS7;have Hown7 := LH hown7;have HS7 := LH hS7;clear hown7 hS7;go_wp2;go_roundw
   case rel => exact ⟨k + 1, by go_num, by omega, by rw [Htk.out]; exact Hown7.out, (HS.out.trans HS6.out).trans' HS7.out fun j hj _ => hj⟩
   case measure => simp [intOf]; omega
  ·obtain rfl : k = cs.length := by omega
   rw [List.take_length] at Hown;clear hS hown;go_wp2;go_ret;exact ⟨_, rfl, Hown.out, HS.out⟩
set_option maxHeartbeats 2000000 in
theorem Jg (v : Value) (cs : List Cel) (S : Nat → Prop) (w : World) (hv : QU w S v cs) (hn : cs.length ≤ 100000) (hn2 : ∀ c ∈ cs, c.vers.length ≤ 1000000) :
  Calls Try.prog 34 #[v] w (KZ cs w) := by
 obtain ⟨A, cp, rfl, hc, hm⟩ := hv.form;have Hv := LH hv;have Hn2 := LH hn2;unfold maxLen at hm;clear hv hn2;go_enter Try.func34, Try.ntmps34;go_wp2;go_loopw [3, 4, 5] (fun l i _ wr => ∃ k : Nat, i = .int .i64 k ∧ k ≤ cs.length ∧ QY wr w.heap.size l (cs.take k) ∧ Qa (fun _ => True) w wr) (fun _ i _ _ => cs.length - (intOf i).toNat)
 case atStart => exact ⟨0, rfl, Nat.zero_le _, by rw [List.take_zero]; exact QY.nil _ _, Qa.refl _ _⟩
 case round =>
  obtain ⟨k, rfl, hk, hown, hS⟩ := hrel;have HS := LH hS;have Hown := LH hown;have hsz := hS.size;obtain ⟨Al, nl, cl, rfl, hl1, hl2⟩ := hown.form3;unfold maxLen at hl2;by_cases hlt : k < cs.length
  ·obtain ⟨ad, u, rfl, -, hvr, c0, c1, c2, c3, c4, c5, c6, c7, c8, c9, c10, c11⟩ := QU.cells12 (Hv.out.keepAll hS) hlt;obtain ⟨Au, cu, rfl, -, -⟩ := hvr.form;have x1 : (0 : Int) ≤ (k : Int) := by omega
   have x2 : (k : Int) < (cs.length : Int) := by omega
   have hab := World.block_lt_of_cell? wr _ c0;have htk : cs.take (k + 1) = cs.take k ++ [cs[k]] := List.take_succ_eq_append_getElem hlt;have hcl := Hn2.out cs[k] (List.getElem_mem hlt);have Htk := LH htk;have Hvr := LH hvr;clear hvr htk hown hS;generalize cs[k] = c at *;have hrow := Row.new wr 64 (Qj (.slice Au c.vers.length cu, c));have Hrow := LH hrow;have hs1 := ((Qa.refl (fun _ => True) wr).alloc (.cells (Qj (.slice Au c.vers.length cu, c)).toArray 64));have Hs1 := LH hs1;clear hrow hs1;go_wp2_with (at_builtin; refine Qf ?_);unfold Hid;have hs2 := (Hs1.out.alloc (.cells #[] 69))
   have hemp : Qg Qz 4 69 ((wr.alloc (.cells (Qj (.slice Au c.vers.length cu, c)).toArray 64)).alloc (.cells #[] 69)) (wr.heap.size + 1) (.slice (some ⟨wr.heap.size + 1, 0, none⟩) 0 0) [] := by
    have := Qg.empty Qz 4 69 (wr.alloc (.cells (Qj (.slice Au c.vers.length cu, c)).toArray 64));rw [World.size_alloc] at this;exact this
   refine ZT (B := wr.heap.size + 1) (l := []) ZD Qq QV rfl (.tmp 16) (.tmp 18) rfl rfl rfl (Qw.keepAll Hvr.out hs2) hemp (by rw [World.size_alloc, World.size_alloc]; omega) (by simp only [maxLen, List.length_nil]; omega) (by simp only [List.length_nil]; omega) ?_;intro u' w5 hown5 hS5
   obtain ⟨A5, n5, c5', rfl, -, -⟩ : ∃ A n c, u' = .slice A n c ∧ n ≤ c ∧ c ≤ maxLen := by
    obtain ⟨A, c, h1, h2, h3⟩ := hown5.form;exact ⟨A, _, c, h1, h2, h3⟩
   have hS5' : Qa (fun j => j ≠ wr.heap.size + 1) (wr.alloc (.cells (Qj (.slice Au c.vers.length cu, c)).toArray 64)) w5 :=
    (SR.alloc _).trans (hS5.mono fun j _ hj e => by
     injection (show some j = some (wr.heap.size + 1) from e) with e
     exact hj e)
   have hbox := Hrow.out.keep hS5' (by simp);have hS6 : Qa (fun j => True) wr w5 := Hs1.out.trans' hS5' fun j hj _ => by omega
   have hown6 := hown5.wr;rw [List.nil_append] at hown6;have Hbox := LH hbox;have HS6 := LH hS6;have Hown6 := LH hown6;obtain ⟨a0, a1, a2, a3, a4, a5, a6, a7, a8, a9, a10, a11, -, f1, -⟩ := QD hbox;have z0 := hbox.lt;clear hemp hbox hS6 hown6 hS5 hS5' hown5 hs2 c0 c1 c2 c3 c4 c5 c6 c7 c8 c9 c10 c11;go_wp2_with (at_builtin; refine Qf ?_);unfold Hid;have hS7 : Qa (fun j => j ≠ wr.heap.size) w5 (w5.setCell ⟨wr.heap.size, 1, none⟩ (.slice A5 n5 c5')) := SR.setCell (fun _ h => h rfl) _;have hS8 : Qa (fun _ => True) wr (w5.setCell ⟨wr.heap.size, 1, none⟩ (.slice A5 n5 c5')) := HS6.out.trans' hS7 fun j hj _ => by omega
   have HS8 := LH hS8;refine Xu (w := w5.setCell ⟨wr.heap.size, 1, none⟩ (.slice A5 n5 c5')) (c := c) (B := w.heap.size) rfl (.tmp 21) (.tmp 23) rfl rfl rfl (by first | rfl | simp) (Hown.out.keepAll hS8) ((Hown6.out.keep (hS7.mono fun j _ hj => by omega)).mono fun j _ hj => by omega) (by have := hS8.size; omega) (by rw [List.length_take]; omega) ?_;intro v' w7 hown7 hS9;have Hown7 := LH hown7;have HS9 := LH hS9;clear hown7 hS9 hS7 hS8;go_wp2;go_roundw
   case rel => exact ⟨k + 1, by go_num, by omega, by rw [Htk.out]; exact Hown7.out, (HS.out.trans HS8.out).trans' HS9.out fun j hj _ => hj⟩
   case measure => simp [intOf]; omega
  ·obtain rfl : k = cs.length := by omega
   rw [List.take_length] at Hown;clear hS hown;go_wp2;go_ret;exact ⟨_, rfl, Hown.out, HS.out⟩
theorem X5.cut {α : Type} {f : α → List Value} {n : Nat} {e : TypeId} {w : World} {S : Nat → Prop} {l : List α} {A : Option Addr} {m c : Nat} (h : X5 f n e w S (.slice A m c) l) (hf : ∀ x, (f x).length = n) {i : Nat} (hi : i ≤ l.length) :
  X5 f n e w S (.slice (if c = i then A else A.map (·.add (i * n))) (l.length - i) (c - i)) (l.drop i) := by
 obtain ⟨A', c', h1, h2, h3, h4⟩ := h;injection h1 with e1 e2 e3;subst e1 e2 e3;refine ⟨_, c - i, by rw [List.length_drop], by rw [List.length_drop]; omega, by omega, fun h0 => ?_⟩;rw [List.length_drop] at h0;obtain ⟨g, o, cur, k1, k2, k3, k4⟩ := h4 (by omega);subst k1;rw [if_neg (by omega)];refine ⟨g, o + i * n, cur, by simp only [Option.map_some, X7], k2, k3, fun j u hu => ?_⟩;rw [Zw f n hf, List.getElem?_drop] at hu;rw [Nat.add_assoc];exact k4 _ u hu
def Y5 (l : List Ver) (a : St) : Nat := if Xs l a < 0 then 0 else if (l[(Xs l a).toNat]?.map (·.drop)).getD false then (Xs l a).toNat + 1 else (Xs l a).toNat
def X4 (l : List Ver) (a : St) : List Ver := l.drop (Y5 l a)
def Qv (c : Cel) : Bool := c.locked || !c.vers.isEmpty
def QL (a : St) (c : Cel) : List Cel := if Qv { c with vers := X4 c.vers a } then [{ c with vers := X4 c.vers a }] else []
def XP (cs : List Cel) (a : St) : List Cel := cs.flatMap (QL a)
theorem VP {cs : List Cel} {a : St} {k : Nat} (h : k < cs.length) : XP (cs.take (k + 1)) a = XP (cs.take k) a ++ QL a cs[k] := by
 unfold XP;rw [List.take_succ_eq_append_getElem h, List.flatMap_append];simp
theorem YR (a : St) : ∀ cs : List Cel, (XP cs a).length ≤ cs.length
 | [] => by simp [XP]
 | c :: cs => by
  have := YR a cs;have e : XP (c :: cs) a = QL a c ++ XP cs a := by simp [XP]
  rw [e, List.length_append, List.length_cons];unfold QL;split <;> simp <;> omega
end Go.Proofs.Ytoldelocfmpccaa
namespace Go.Proofs.Ytoldelocfmpccaa
theorem YE (a b : St) : QG a b = true ↔ a.wall < b.wall ∨ a.wall = b.wall ∧ a.tie < b.tie := by simp [QG]
theorem UQ (a b : St) : QG a b = false ↔ ¬ (a.wall < b.wall ∨ a.wall = b.wall ∧ a.tie < b.tie) := by
 rw [← YE]; simp
theorem QaV (a b : St) : a = b ↔ a.wall = b.wall ∧ a.tie = b.tie := by
 cases a; cases b; simp
theorem ZA (a : St) : QG a a = false := by rw [UQ]; omega
theorem Z4 {a b c : St} (h1 : QG a b = true) (h2 : QG b c = true) : QG a c = true := by
 rw [YE] at *; omega
theorem VM {a b : St} (h : QG a b = true) : QG b a = false := by
 rw [YE] at h; rw [UQ]; omega
theorem UP {a b : St} (h : QG a b = true) : a ≠ b := by
 rintro rfl; rw [ZA] at h; cases h
theorem UD {a b : St} (h : QG a b = false) : a = b ∨ QG b a = true := by
 rw [UQ] at h; rw [YE, QaV]; omega
def XU (vs : List Ver) : Prop := vs.Pairwise fun x y => QG x.at_ y.at_ = true
def X9 : List Ver → Ver → List Ver
 | [], v => [v]
 | x :: l, v => if QG x.at_ v.at_ then x :: X9 l v else if x.at_ = v.at_ then v :: l else v :: x :: l
theorem Kj : ∀ (l : List Ver) (v : Ver), (X9 l v).length ≤ l.length + 1 ∧ 0 < (X9 l v).length
 | [], v => by simp [X9]
 | x :: l, v => by
  have := Kj l v;unfold X9;split
  ·simp; omega
  ·split <;> simp
theorem Wk {l : List Ver} {v x : Ver} (h : x ∈ X9 l v) : x = v ∨ x ∈ l := by
 induction l with
 | nil => simp [X9] at h; exact .inl h
 | cons y l ih =>
  unfold X9 at h;split at h
  ·rcases List.mem_cons.1 h with rfl | h
   ·simp
   ·rcases ih h with h | h <;> simp [h]
  ·split at h
   ·rcases List.mem_cons.1 h with rfl | h <;> simp [*]
   ·rcases List.mem_cons.1 h with rfl | h
    ·simp
    ·exact .inr h
theorem Qaz {l : List Ver} (hl : XU l) (v : Ver) : XU (X9 l v) := by
 induction l with
 | nil => simp [X9, XU]
 | cons x l ih =>
  obtain ⟨h1, h2⟩ := List.pairwise_cons.1 hl;unfold X9;split
  ·rename_i hx;refine List.pairwise_cons.2 ⟨fun y hy => ?_, ih h2⟩;rcases Wk hy with rfl | hy
   ·exact hx
   ·exact h1 y hy
  ·rename_i hx;have hx : QG x.at_ v.at_ = false := by simpa using hx
   split
   ·rename_i e;exact List.pairwise_cons.2 ⟨fun y hy => by rw [← e]; exact h1 y hy, h2⟩
   ·rename_i e
    have hv : QG v.at_ x.at_ = true := by
     rcases UD hx with h | h
     ·exact absurd h e
     ·exact h
    refine List.pairwise_cons.2 ⟨fun y hy => ?_, hl⟩;rcases List.mem_cons.1 hy with rfl | hy
    ·exact hv
    ·exact Z4 hv (h1 y hy)
theorem Qaj {v : Ver} : ∀ {l : List Ver} {n : Nat}, n ≤ l.length → (∀ k (h : k < l.length), k < n → QG l[k].at_ v.at_ = true) → (∀ k (h : k < l.length), n ≤ k → QG v.at_ l[k].at_ = true) → X9 l v = l.take n ++ v :: l.drop n
 | [], n, h0, _, _ => by simp [X9]
 | x :: l, 0, _, _, h2 => by
  have := h2 0 (by simp) (by omega);simp at this;have e : ¬ x.at_ = v.at_ := fun h => UP this h.symm
  simp [X9, VM this, e]
 | x :: l, n + 1, h0, h1, h2 => by
  have e := h1 0 (by simp) (by omega);simp at e;have ih := Qaj (v := v) (l := l) (n := n) (by simpa using h0) (fun k h hk => by have := h1 (k + 1) (by simpa using h) (by omega); simpa using this) (fun k h hk => by have := h2 (k + 1) (by simpa using h) (by omega); simpa using this);simp [X9, e, ih]
theorem Wc {v : Ver} : ∀ {l : List Ver} {n : Nat} (hn : n < l.length), XU l → l[n].at_ = v.at_ → X9 l v = l.take n ++ v :: l.drop (n + 1)
 | x :: l, 0, _, hs, e => by
  simp at e;simp [X9, e, ZA]
 | x :: l, n + 1, hn, hs, e => by
  obtain ⟨h1, h2⟩ := List.pairwise_cons.1 hs;simp at e hn;have hx := h1 _ (List.getElem_mem hn);rw [e] at hx;have ih := Wc (v := v) (l := l) (n := n) hn h2 e;simp [X9, hx, ih]
def Xi (v : Ver) : Bool → List Ver → List Ver
 | b, [] => if b then [] else [v]
 | b, x :: l => (if !b && !QG x.at_ v.at_ then [v] else []) ++ ((if x.at_ = v.at_ then [] else [x]) ++ Xi v (b || !QG x.at_ v.at_) l)
theorem YW {v : Ver} : ∀ {l : List Ver}, (∀ x ∈ l, QG v.at_ x.at_ = true) → Xi v true l = l
 | [], _ => rfl
 | x :: l, h => by
  have h1 := h x (by simp);have h2 : ¬ x.at_ = v.at_ := fun e => UP h1 e.symm
  have ih := YW (v := v) (l := l) fun y hy => h y (by simp [hy])
  simp [Xi, ih, h2]
theorem Vi {v : Ver} : ∀ {l : List Ver}, XU l → Xi v false l = X9 l v
 | [], _ => rfl
 | x :: l, h => by
  obtain ⟨h1, h2⟩ := List.pairwise_cons.1 h;unfold Xi X9;cases hx : QG x.at_ v.at_
  ·by_cases e : x.at_ = v.at_
   ·have := YW (v := v) (l := l) fun y hy => by rw [← e]; exact h1 y hy
    simp [e, this]
   ·have hv : QG v.at_ x.at_ = true := by
     rcases UD hx with h | h
     ·exact absurd h e
     ·exact h
    have := YW (v := v) (l := l) fun y hy => Z4 hv (h1 y hy)
    simp [e, this]
  ·have := UP hx;simp [this, Vi (v := v) h2]
theorem KM {l : List Ver} {a : St} : ∀ {n : Nat}, n ≤ l.length → ∀ (h0 : 0 ≤ XF l a n), ∃ h : (XF l a n).toNat < l.length, QG a l[(XF l a n).toNat].at_ = false
 | 0, _, h => by simp [XF] at h
 | n + 1, hn, h => by
  have hlt : n < l.length := by omega
  cases hb : QG a l[n].at_
  ·have e : XF l a (n + 1) = n := by rw [ZR hlt, hb]; simp
   rw [e] at h ⊢;exact ⟨by simpa using hlt, by simpa using hb⟩
  ·have e : XF l a (n + 1) = XF l a n := by rw [ZR hlt, hb]; simp
   rw [e] at h ⊢;exact KM (by omega) h
theorem YF {l : List Ver} {a : St} : ∀ {n : Nat}, n ≤ l.length → ∀ k (h : k < l.length), XF l a n < k → k < n → QG a l[k].at_ = true
 | 0, _, k, _, _, h => absurd h (Nat.not_lt_zero _)
 | n + 1, hn, k, hk, h1, h2 => by
  have hlt : n < l.length := by omega
  rw [ZR hlt] at h1;cases hb : QG a l[n].at_
  ·rw [hb] at h1;simp at h1;omega
  ·rw [hb] at h1;simp at h1;rcases Nat.lt_or_ge k n with h | h
   ·exact YF (by omega) k hk h1 h
   ·obtain rfl : k = n := by omega
    exact hb
theorem Vp {l : List Ver} {a : St} (h : 0 ≤ Xs l a) : ∃ h : (Xs l a).toNat < l.length, QG a l[(Xs l a).toNat].at_ = false := KM (Nat.le_refl _) h
theorem Kp {l : List Ver} {a : St} (k : Nat) (h : k < l.length) (hk : Xs l a < k) : QG a l[k].at_ = true := YF (Nat.le_refl _) k h hk h
theorem Qbl {l : List Ver} {a : St} {j : Int} (h0 : -1 ≤ j) (h1 : j < l.length) (h2 : ∀ h : j.toNat < l.length, 0 ≤ j → QG a l[j.toNat].at_ = false) (h3 : ∀ k (h : k < l.length), j < k → QG a l[k].at_ = true) : Xs l a = j := by
 have hb := Jm l a;rcases Int.lt_trichotomy (Xs l a) j with h | h | h
 ·have h4 := Kp (l := l) (a := a) j.toNat (by omega) (by omega);rw [h2 (by omega) (by omega)] at h4;cases h4
 ·exact h
 ·obtain ⟨h4, h5⟩ := Vp (l := l) (a := a) (by omega);have := h3 _ h4 (by omega);rw [h5] at this;cases this
theorem Yd {l : List Ver} {v : Ver} (hs : XU l) (hne : ∀ h : (Xs l v.at_).toNat < l.length, 0 ≤ Xs l v.at_ → l[(Xs l v.at_).toNat].at_ ≠ v.at_) :
  X9 l v = l.take (Xs l v.at_ + 1).toNat ++ v :: l.drop (Xs l v.at_ + 1).toNat := by
 have hb := Jm l v.at_;refine Qaj (by omega) (fun k h hk => ?_) (fun k h hk => Kp k h (by omega));obtain ⟨h1, h2⟩ := Vp (l := l) (a := v.at_) (by omega)
 have h3 : QG l[(Xs l v.at_).toNat].at_ v.at_ = true := by
  rcases UD h2 with h | h
  ·exact absurd h.symm (hne h1 (by omega))
  ·exact h
 rcases Nat.lt_or_ge k (Xs l v.at_).toNat with h4 | h4
 ·exact Z4 (List.pairwise_iff_getElem.1 hs k _ h h1 h4) h3
 ·obtain rfl : k = (Xs l v.at_).toNat := by omega
  exact h3
structure Zi (c : Cel) : Prop where
 sort : XU c.vers
 vers : ∀ v ∈ c.vers, v.drop = true → v.data = []
 free : c.locked = false → c.lock = Lck.zero
 kept : Qv c = true
 lock : c.lock.drop = true → c.lock.data = []
structure Zb (cs : List Cel) : Prop where
 sort : cs.Pairwise fun x y => ltB x.key y.key = true
 each : ∀ c ∈ cs, Zi c
theorem Yp (cs : List Cel) : XI cs ↔ cs.Pairwise fun x y => ltB x.key y.key = true := by
 unfold XI;rw [List.pairwise_iff_getElem]
 
theorem Zb.sorted {cs : List Cel} (h : Zb cs) : XI cs := (Yp cs).2 h.sort
theorem YD : Zb [] := ⟨List.Pairwise.nil, fun c h => by cases h⟩
structure Wr where
 key : List UInt8
 drop : Bool
 data : List UInt8
def XJ (w : Wr) (l : Lck) : Lck := { l with drop := w.drop, data := if w.drop then [] else w.data }
def QM (k : List UInt8) : Cel := ⟨k, [], false, Lck.zero⟩
def Kf (c : Cel) (l : Lck) : Cel := { c with locked := true, lock := l }
def ZV : List Cel → List UInt8 → Lck → List Cel
 | [], k, l => [Kf (QM k) l]
 | c :: cs, k, l => if ltB c.key k then c :: ZV cs k l else if c.key = k then Kf c l :: cs else Kf (QM k) l :: c :: cs
theorem U8 : ∀ (cs : List Cel) (k : List UInt8) (l : Lck), (ZV cs k l).length ≤ cs.length + 1
 | [], k, l => by simp [ZV]
 | c :: cs, k, l => by
  have := U8 cs k l;unfold ZV;split
  ·simp; omega
  ·split <;> simp
theorem JQ {k : List UInt8} : ∀ {cs : List Cel}, (cs.Pairwise fun x y => ltB x.key y.key = true) → ∃ (A : List Cel) (o : Option Cel) (Z : List Cel), cs = A ++ (o.toList ++ Z) ∧ (∀ c ∈ A, ltB c.key k = true) ∧ (∀ c ∈ Z, ltB k c.key = true) ∧ (∀ c ∈ o, c.key = k) ∧
  (∀ l, ZV cs k l = A ++ Kf (o.getD (QM k)) l :: Z) ∧ Xw cs k = A.length ∧ XB cs k = o.isSome
 | [], _ => ⟨[], none, [], rfl, by simp, by simp, by simp, fun l => rfl, rfl, rfl⟩
 | c :: cs, h => by
  obtain ⟨h1, h2⟩ := List.pairwise_cons.1 h;cases hc : ltB c.key k
  ·have hp : Xw (c :: cs) k = 0 := by simp [Xw, hc]
   by_cases e : c.key = k
   ·refine ⟨[], some c, cs, rfl, by simp, fun x hx => by rw [← e]; exact h1 x hx, fun x hx => by cases hx; exact e, fun l => by unfold ZV; rw [hc, if_neg (by simp), if_pos e]; rfl, hp, ?_⟩;unfold XB;rw [hp];simp [e]
   ·have hk : ltB k c.key = true := by
     rcases YH c.key k with h | h | h
     ·rw [h] at hc; cases hc
     ·exact absurd h e
     ·exact h
    refine ⟨[], none, c :: cs, rfl, by simp, fun x hx => ?_, by simp, fun l => by unfold ZV; rw [hc, if_neg (by simp), if_neg e]; rfl, hp, ?_⟩
    ·rcases List.mem_cons.1 hx with rfl | hx
     ·exact hk
     ·exact Zh hk (h1 x hx)
    ·unfold XB;rw [hp];simp [e]
  ·obtain ⟨A, o, Z, e1, e2, e3, e4, e5, e6, e7⟩ := JQ (k := k) h2;have hp : Xw (c :: cs) k = Xw cs k + 1 := by simp [Xw, hc]
   refine ⟨c :: A, o, Z, by rw [e1]; rfl, fun x hx => ?_, e3, e4, fun l => by simp [ZV, hc, e5], by rw [hp, e6]; rfl, ?_⟩
   ·rcases List.mem_cons.1 hx with rfl | hx
    ·exact hc
    ·exact e2 x hx
   ·rw [← e7];unfold XB;rw [hp];simp
theorem WH {cs : List Cel} (h : Zb cs) (w : Wr) (l : Lck) : Zb (ZV cs w.key (XJ w l)) := by
 obtain ⟨A, o, Z, e1, e2, e3, e4, e5, e6, e7⟩ := JQ (k := w.key) h.sort;have hs := h.sort;rw [e1, List.pairwise_append] at hs;obtain ⟨hA, hoZ, _⟩ := hs;rw [List.pairwise_append] at hoZ
 have hkey : (Kf (o.getD (QM w.key)) (XJ w l)).key = w.key := by
  cases o with
  | none => rfl
  | some c => exact e4 c rfl
 rw [e5];refine ⟨?_, fun c hc => ?_⟩
 ·rw [List.pairwise_append];refine ⟨hA, List.pairwise_cons.2 ⟨fun x hx => ?_, hoZ.2.1⟩, fun x hx y hy => ?_⟩
  ·rw [hkey]; exact e3 x hx
  ·rcases List.mem_cons.1 hy with rfl | hy
   ·rw [hkey]; exact e2 x hx
   ·exact Zh (e2 x hx) (e3 y hy)
 ·rcases List.mem_append.1 hc with hc | hc
  ·exact h.each c (by rw [e1]; simp [hc])
  ·rcases List.mem_cons.1 hc with rfl | hc
   ·have hv : ∀ v ∈ (o.getD (QM w.key)).vers, v.drop = true → v.data = [] := by
     cases o with
     | none => intro v hv; cases hv
     | some c => exact (h.each c (by rw [e1]; simp)).vers
    have hv2 : XU (o.getD (QM w.key)).vers := by
     cases o with
     | none => exact List.Pairwise.nil
     | some c => exact (h.each c (by rw [e1]; simp)).sort
    refine ⟨hv2, hv, fun h => ?_, rfl, fun h => ?_⟩
    ·cases h
    ·show (if w.drop = true then [] else w.data) = [];have h : w.drop = true := h;rw [if_pos h]
   ·exact h.each c (by rw [e1]; simp [hc])
def ZU (c : Cel) : Ver := ⟨c.lock.at_, c.lock.drop, c.lock.data⟩
def X6 (yes : Bool) (c : Cel) : Cel := { c with vers := if yes then X9 c.vers (ZU c) else c.vers, locked := false, lock := Lck.zero }
def Q7 (b : QZ) (yes : Bool) (c : Cel) : List Cel := if Qv (if Xb c b then X6 yes c else c) then [if Xb c b then X6 yes c else c] else []
def Xz (cs : List Cel) (b : QZ) (yes : Bool) : List Cel := cs.flatMap (Q7 b yes)
theorem Je {f : Cel → List Cel} (hf : ∀ c, (f c).length ≤ 1) : ∀ cs : List Cel, (cs.flatMap f).length ≤ cs.length
 | [] => by simp
 | c :: cs => by
  have := Je hf cs;have := hf c;rw [List.flatMap_cons, List.length_append, List.length_cons];omega
theorem Qa6 (p : Bool) (y : Cel) : (if p = true then [y] else []).length ≤ 1 := by cases p <;> simp
theorem Xj (b : QZ) (yes : Bool) (c : Cel) : (Q7 b yes c).length ≤ 1 := Qa6 _ _
theorem Wt (cs : List Cel) (b : QZ) (yes : Bool) : (Xz cs b yes).length ≤ cs.length := Je (Xj b yes) cs
theorem YV {f : Cel → List Cel} (hk : ∀ c x, x ∈ f c → x.key = c.key) (h1 : ∀ c, (f c).length ≤ 1) (hg : ∀ c x, Zi c → x ∈ f c → Zi x) : ∀ {cs : List Cel}, Zb cs → Zb (cs.flatMap f)
 | [], _ => YD
 | c :: cs, h => by
  obtain ⟨h2, h3⟩ := List.pairwise_cons.1 h.sort;have ih := YV hk h1 hg (cs := cs) ⟨h3, fun x hx => h.each x (by simp [hx])⟩;have hc := h1 c;rw [List.flatMap_cons]
  match hf : f c, hc with
  | [], _ => simpa using ih
  | [y], _ =>
   refine ⟨List.pairwise_cons.2 ⟨fun x hx => ?_, ih.sort⟩, fun x hx => ?_⟩
   ·obtain ⟨d, hd, hx⟩ := List.mem_flatMap.1 hx;rw [hk c y (by rw [hf]; simp), hk d x hx];exact h2 d hd
   ·rcases List.mem_cons.1 hx with rfl | hx
    ·exact hg c _ (h.each c (by simp)) (by rw [hf]; simp)
    ·exact ih.each x hx
theorem V9 {p : Bool} {x y : Cel} (h : x ∈ if p then [y] else []) : p = true ∧ x = y := by
 cases p
 ·simp at h
 ·simpa using h
theorem WQ {c : Cel} (h : Zi c) (yes : Bool) (hk : Qv (X6 yes c) = true) : Zi (X6 yes c) := by
 refine ⟨?_, ?_, fun _ => rfl, hk, fun h => ?_⟩
 ·cases yes
  ·exact h.sort
  ·exact Qaz h.sort _
 ·cases yes
  ·exact h.vers
  ·intro v hv hd;rcases Wk hv with rfl | hv
   ·exact h.lock hd
   ·exact h.vers v hv hd
 ·cases h
theorem YY {b : QZ} {yes : Bool} {c x : Cel} (h : x ∈ Q7 b yes c) : Qv x = true ∧ x = if Xb c b then X6 yes c else c := by
 obtain ⟨h1, rfl⟩ := V9 h;exact ⟨h1, rfl⟩
theorem WY {cs : List Cel} (h : Zb cs) (b : QZ) (yes : Bool) : Zb (Xz cs b yes) := by
 refine YV (fun c x hx => ?_) (Xj b yes) (fun c x hc hx => ?_) h
 ·obtain ⟨_, rfl⟩ := YY hx;split <;> rfl
 ·obtain ⟨hk, rfl⟩ := YY hx;split
  ·rename_i hm;rw [if_pos hm] at hk;exact WQ hc yes hk
  ·exact hc
theorem YS {a : St} {c x : Cel} (h : x ∈ QL a c) : Qv x = true ∧ x = { c with vers := X4 c.vers a } := by
 obtain ⟨h1, rfl⟩ := V9 h;exact ⟨h1, rfl⟩
theorem XD (a : St) (c : Cel) : (QL a c).length ≤ 1 := by unfold QL; split <;> simp
theorem Qac {cs : List Cel} (h : Zb cs) (a : St) : Zb (XP cs a) := by
 refine YV (fun c x hx => ?_) (XD a) (fun c x hc hx => ?_) h
 ·obtain ⟨_, rfl⟩ := YS hx;rfl
 ·obtain ⟨hk, rfl⟩ := YS hx;exact ⟨hc.sort.sublist (List.drop_sublist _ _), fun v hv => hc.vers v (List.mem_of_mem_drop hv), hc.free, hk, hc.lock⟩
structure OpT where
 kind : Int
 w : Wr
 l : Lck
 yes : Bool
def Qbq (k : Int) : Int := k.emod 3
def opF (cs : List Cel) (o : OpT) : List Cel := if Qbq o.kind = 0 then ZV cs o.w.key (XJ o.w o.l) else if Qbq o.kind = 1 then Xz cs o.l.by_ o.yes else XP cs o.l.at_
theorem Qak {cs : List Cel} (h : Zb cs) (o : OpT) : Zb (opF cs o) := by
 unfold opF;split
 ·exact WH h _ _
 ·split
  ·exact WY h _ _
  ·exact Qac h _
def Few (n : Nat) (cs : List Cel) : Prop := cs.length ≤ n ∧ ∀ c ∈ cs, c.vers.length ≤ n
theorem Qa8 {cs : List Cel} {n : Nat} (hs : Zb cs) (h : Few n cs) (o : OpT) : Few (n + 1) (opF cs o) := by
 unfold opF;split
 ·refine ⟨by have := U8 cs o.w.key (XJ o.w o.l); have := h.1; omega, fun c hc => ?_⟩;obtain ⟨A, q, Z, e1, e2, e3, e4, e5, _⟩ := JQ (k := o.w.key) hs.sort;rw [e5] at hc;have hin : ∀ x ∈ cs, x.vers.length ≤ n + 1 := fun x hx => by have := h.2 x hx; omega
  rcases List.mem_append.1 hc with hc | hc
  ·exact hin c (by rw [e1]; simp [hc])
  ·rcases List.mem_cons.1 hc with rfl | hc
   ·cases q with
    | none => exact Nat.zero_le _
    | some d => exact hin d (by rw [e1]; simp)
   ·exact hin c (by rw [e1]; simp [hc])
 ·split
  ·refine ⟨by have := Wt cs o.l.by_ o.yes; have := h.1; omega, fun c hc => ?_⟩;obtain ⟨d, hd, hx⟩ := List.mem_flatMap.1 hc;obtain ⟨_, rfl⟩ := YY hx;have := h.2 d hd;split
   ·show (if o.yes = true then X9 d.vers (ZU d) else d.vers).length ≤ n + 1;split
    ·have := (Kj d.vers (ZU d)).1;omega
    ·omega
   ·omega
  ·refine ⟨by have := YR o.l.at_ cs; have := h.1; omega, fun c hc => ?_⟩;obtain ⟨d, hd, hx⟩ := List.mem_flatMap.1 hc;obtain ⟨_, rfl⟩ := YS hx;have := h.2 d hd;show (List.drop _ _).length ≤ n + 1;rw [List.length_drop];omega
theorem Few.mono {n m : Nat} {cs : List Cel} (h : Few n cs) (hm : n ≤ m) : Few m cs := ⟨Nat.le_trans h.1 hm, fun c hc => Nat.le_trans (h.2 c hc) hm⟩
end Go.Proofs.Ytoldelocfmpccaa
namespace Go.Proofs.Ytoldelocfmpccaa
open Go.RowKit
section
variable {P : Program} {t e : TypeId} {size bytes : Nat} {z : Value}
theorem V5 (T : SlT P t e size bytes z) (w : World) (ty : TypeId) (g off dLen dCap sLen sCap k : Nat) (ad : Addr) (cur cs : List Value) (u : TypeId) (hg : Row w g u cur) (hk : k = Nat.min sLen dLen) (hl : cs.length = k * size)
  (hc : ∀ j v, cs[j]? = some v → w.cell? (ad.add j) = some v) (hfit : off + cs.length ≤ cur.length) (h1 : ∀ v ∈ cs, v.oneCell' = true) :
  ∃ w', (Builtin.copy_ #[t, t] ty #[.slice (some ⟨g, off, none⟩) dLen dCap, .slice (some ad) sLen sCap]).run P w = .ok (goInt k) w' ∧ Row w' g u (cur.take off ++ cs ++ cur.drop (off + cs.length)) ∧ Qa (fun k => k ≠ g) w w' := by
 obtain ⟨i, hi, hz, h4, h5⟩ := info_parts T.info;have hld := run_loadCells_list (P := P) w ad cs hc;rw [hl] at hld;have hst := run_storeCells_at (P := P) g off u cs 0 cur.toArray w hg (by simpa using hfit) h1;refine ⟨w.setRow g (cur.take off ++ cs ++ cur.drop (off + cs.length)).toArray, ?_, ?_, ?_⟩
 ·simp only [Nat.add_zero, List.toList_toArray] at hst;simp [Builtin.copy_, run_underlying T.und, Builtin.lenOf, Builtin.firstCells, sizeOf, typeInfo, hi, h4, ← hk, hld, hst]
 ·exact setRow_heap w g cur.toArray _ u (0, 0) hg
 ·exact ⟨rfl, rfl, rfl, by simp [World.setRow], fun k _ hk => setRow_other w g k _ hk⟩
theorem Js (T : SlT P t e size bytes z) (w : World) {ops : Array Oper} {rest : List Oper} {o : Oper} {a : Act} {Q : Exit → Act → World → Prop} (hgd : o.guard = none) (d s : Operand)
  (ho : o.op = .call { callee := .builtin .copy, args := #[d, s], argTypes := #[t, t] }) (g off dLen dCap sLen sCap k : Nat) (ad : Addr) (hd : a.eval d = .slice (some ⟨g, off, none⟩) dLen dCap) (hs : a.eval s = .slice (some ad) sLen sCap)
  (cur cs : List Value) (u : TypeId) (hg : Row w g u cur) (hk : k = Nat.min sLen dLen) (hl : cs.length = k * size)
  (hc : ∀ j v, cs[j]? = some v → w.cell? (ad.add j) = some v) (hfit : off + cs.length ≤ cur.length) (h1 : ∀ v ∈ cs, v.oneCell' = true)
  (h : ∀ w', Row w' g u (cur.take off ++ cs ++ cur.drop (off + cs.length)) → Qa (fun k => k ≠ g) w w' → wpList P ops Q rest (a.put o.dst (goInt k)) w') : wpList P ops Q (o :: rest) a w := by
 obtain ⟨w', hr, h2, h3⟩ := V5 T w o.type g off dLen dCap sLen sCap k ad cur cs u hg hk hl hc hfit h1;refine wpList_plain hgd fun K hK => ?_
 unfold Oper.wp execOp;simp only [ho, resolve, invoke, builtin, Sem.run_bind, Sem.run_pure, Result.andThen_ok, List.map_toArray, List.map_cons, List.map_nil, hd, hs, hr];exact hK _ _ (h w' h2 h3)
theorem Yz (T : SlT P t e size bytes z) {w : World} {ops : Array Oper} {o : Oper} {a : Act} {K : Act → World → Prop} {Q : Exit → Act → World → Prop} {E : Prop} (hgd : o.guard = none) (d s : Operand)
  (ho : o.op = .call { callee := .builtin .copy, args := #[d, s], argTypes := #[t, t] }) (g off dLen dCap sLen sCap k : Nat) (ad : Addr) (hd : a.eval d = .slice (some ⟨g, off, none⟩) dLen dCap) (hs : a.eval s = .slice (some ad) sLen sCap)
  (cur cs : List Value) (u : TypeId) (hg : Row w g u cur) (hk : k = Nat.min sLen dLen) (hl : cs.length = k * size)
  (hc : ∀ j v, cs[j]? = some v → w.cell? (ad.add j) = some v) (hfit : off + cs.length ≤ cur.length) (h1 : ∀ v ∈ cs, v.oneCell' = true)
  (h : ∀ w', Hid (Row w' g u (cur.take off ++ cs ++ cur.drop (off + cs.length))) → Hid (Qa (fun k => k ≠ g) w w') → K (a.put o.dst (goInt k)) w') : if Region.wanted o (yielded ops a.tmps) = true then Oper.wp P o a w K Q else E := by
 obtain ⟨w', hr, h2, h3⟩ := V5 T w o.type g off dLen dCap sLen sCap k ad cur cs u hg hk hl hc hfit h1;have hw : Region.wanted o (yielded ops a.tmps) = true := by simp [Region.wanted, hgd]
 rw [if_pos hw];unfold Oper.wp execOp;simp only [ho, resolve, invoke, builtin, Sem.run_bind, Sem.run_pure, Result.andThen_ok, List.map_toArray, List.map_cons, List.map_nil, hd, hs, hr];exact h w' (LH h2) (LH h3)
theorem KB (T : SlT P t e size bytes z) (w : World) {ops : Array Oper} {rest : List Oper} {o : Oper} {a : Act} {Q : Exit → Act → World → Prop} (hgd : o.guard = none) (s x : Operand) (tn : TypeId)
  (ho : o.op = .call { callee := .builtin .append, args := #[s, x], argTypes := #[t, tn] }) (hn : P.underlying tn = some (.int .i64)) (ad : Addr) (i c k M : Nat) (K : Int) (olds : List Value) (hs : a.eval s = .slice (some ad) i c) (hx : a.eval x = .int .i64 K) (hK : K = k) (hM : i + k = M)
  (hl : olds.length = i * size) (hc : ∀ j v, olds[j]? = some v → w.cell? (ad.add j) = some v) (h0 : 0 < k) (hg : c < i + k) (h63 : i + k ≤ 1000001) (hb : bytes ≤ 1000)
  (h : ∀ w' G Z, Row w' w.heap.size e (olds ++ Z) → Z.length = (G - i) * size → M ≤ G → G ≤ maxLen → Qa (fun _ => True) w w' → w.heap.size < w'.heap.size → wpList P ops Q rest (a.put o.dst (.slice (some ⟨w.heap.size, 0, none⟩) M G)) w') : wpList P ops Q (o :: rest) a w := by
 subst hM;obtain ⟨ti, hi, hz, h4, h5⟩ := info_parts T.info;subst hK;have hold : (Builtin.firstCells ti.size i (.slice (some ad) i c)).run P w.drew = .ok olds.toArray w.drew := run_firstCells_some (w := w.drew) ti.size i ad i c olds (by rw [h4]; exact hl) hc;have hbb : (i + k) * bytes ≤ 140737488355328 := Nat.le_trans (Nat.mul_le_mul h63 hb) (by decide)
 have hkb : k * bytes ≤ 281474976710656 := by
  have : k * bytes ≤ (i + k) * bytes := Nat.mul_le_mul_right _ (by omega);omega
 have hr := Lib.run_append_grow_zeros (P := P) w t tn o.type e ti z .i64 .i64 T.und hn hi hz (some ad) i c olds hold k h0 (by rw [h4]; exact T.pos) hg (by omega) (by rw [h5]; exact hkb) (by rw [h5]; exact growslice_fits hg hbb);refine Lib.wpList_append_run w hgd s x t tn ho _ _ hs hx _ _ hr ?_;have hge := grownCap_ge w (i + k) c e;have hle := grownCap_le_maxLen w (i + k) c e (by simp only [maxLen]; omega);generalize grownCap w (i + k) c e = G at *;refine h _ G ((Builtin.zeroCells z.cells k).toList ++ (Builtin.zeroCells z.cells (G - (i + k))).toList) ?_ ?_ hge hle ((SR.drew).alloc _) (by simp)
 ·have := Row.new w.drew e (olds ++ ((Builtin.zeroCells z.cells k).toList ++ (Builtin.zeroCells z.cells (G - (i + k))).toList))
  have e1 : (olds ++ ((Builtin.zeroCells z.cells k).toList ++ (Builtin.zeroCells z.cells (G - (i + k))).toList)).toArray = olds.toArray ++ Builtin.zeroCells z.cells k ++ Builtin.zeroCells z.cells (G - (i + k)) := by
   apply Array.toList_inj.1;simp
  unfold Row at this ⊢;rw [e1] at this ⊢;exact this
 ·rw [List.length_append, Array.length_toList, Array.length_toList, size_zeroCells, size_zeroCells, T.zs, ← Nat.add_mul];congr 1;omega
theorem Ub (T : SlT P t e size bytes z) {f : FuncId} {fn : Func} (hf : P.funcs[f]? = some fn) (hname : (fn.name == "runtime.NumGoroutine") = false) (hb : fn.body.isNone = true) (hn : Extern.findNext fn = none) (tb : TypeId) (he : Extern.find fn = some (Extern.SlicesOverlaps.overlaps #[t, t] #[tb]))
  (w : World) (x g : Nat) (xs ys : List Value) (off la ca lb cb : Nat) (hx : Row w x e xs) (hg : Row w g e ys) (hy : ys ≠ []) (hne : x ≠ g) :
  (callFunc f #[.slice (some ⟨x, 0, none⟩) la ca, .slice (some ⟨g, off, none⟩) lb cb]).run P w = .ok (.value (.bool false)) w := by
 obtain ⟨i, hi, hz, h4, h5⟩ := info_parts T.info;have sx : w.shape? x = some (e, xs.length) := by unfold Row at hx; simp [World.shape?, hx]
 have sg : w.shape? g = some (e, ys.length) := by unfold Row at hg; simp [World.shape?, hg]
 rw [run_callFunc_extern hf hname hb hn he, Lib.run_overlaps_apart w t tb e T.und size (fun w => by simp [sizeOf, typeInfo, hi, h4]) ⟨x, 0, none⟩ ⟨g, off, none⟩ la ca lb cb hne e e xs.length ys.length sx sg (by intro h; exact hy (List.eq_nil_of_length_eq_zero h)) (hx.frozen 0) (hx.frozen _)];rfl
end
section
variable {α : Type} {f : α → List Value} {n : Nat} {e : TypeId} {w : World} {B : Nat} {v : Value} {l : List α}
theorem Qg.ways (h : Qg f n e w B v l) : (v = .slice none 0 0 ∧ l = []) ∨ ∃ g cap cur, v = .slice (some ⟨g, 0, none⟩) l.length cap ∧ B ≤ g ∧ Row w g e cur ∧ l.length ≤ cap ∧ cap ≤ maxLen ∧ cur.length = cap * n ∧ cur.take (l.length * n) = l.flatMap f := by
 rcases XQ h with ⟨h1, h2, _⟩ | h1
 ·exact .inl ⟨h1, List.eq_nil_of_length_eq_zero h2⟩
 ·exact .inr h1
theorem Qg.make {g cap m : Nat} {cur : List Value} (hB : B ≤ g) (hr : Row w g e cur) (hc : l.length ≤ cap) (hm : cap ≤ maxLen) (hl : cur.length = cap * n) (ht : cur.take (l.length * n) = l.flatMap f) (hml : l.length = m) : Qg f n e w B (.slice (some ⟨g, 0, none⟩) m cap) l := by
 subst hml;have := hr.owns (base := B) (size := n) (n := l.length) (cap := cap) hB hl hc hm;rw [ht] at this;exact this
theorem Us (hf : ∀ x, (f x).length = n) {i : Nat} (hi : i ≤ l.length) (c : α) (D : List Value) :
  ((l.take i).flatMap f ++ f c ++ ((l.drop i).flatMap f ++ D)).take ((l.take i ++ c :: l.drop i).length * n) = (l.take i ++ c :: l.drop i).flatMap f := by
 have e1 : (l.take i).flatMap f ++ f c ++ ((l.drop i).flatMap f ++ D) = (l.take i ++ c :: l.drop i).flatMap f ++ D := by simp
 rw [e1, List.take_append_of_le_length (by rw [XK f n hf]; exact Nat.le_refl _), List.take_of_length_le (by rw [XK f n hf]; exact Nat.le_refl _)]
end
theorem We {H Z X : List Value} {o m : Nat} (hH : H.length = o) (hX : X.length = m) : (H ++ Z).take o ++ X ++ (H ++ Z).drop (o + X.length) = H ++ X ++ Z.drop m := by
 subst hH hX;rw [List.take_left, List.drop_append, List.drop_eq_nil_of_le (by omega)];simp
theorem Wd {H X Z T : List Value} {o : Nat} (h : (H ++ X).length = o) : (H ++ X ++ Z).take o ++ T ++ (H ++ X ++ Z).drop (o + T.length) = H ++ X ++ (T ++ Z.drop T.length) := by
 subst h;rw [List.take_left, List.drop_append, List.drop_eq_nil_of_le (by omega)];simp
theorem Uk {cur H X T D : List Value} {o m : Nat} (hH : H = cur.take o) (hX : X.length = m) (hl : o + m ≤ cur.length) : (cur.take (o + m) ++ T ++ D).take o ++ X ++ (cur.take (o + m) ++ T ++ D).drop (o + X.length) = H ++ X ++ (T ++ D) := by
 subst hH hX;have e : (cur.take (o + X.length)).length = o + X.length := by rw [List.length_take]; omega
 rw [List.append_assoc (cur.take (o + X.length)), List.take_append_of_le_length (by omega), List.take_take, Nat.min_eq_left (by omega), List.drop_append, List.drop_eq_nil_of_le (by omega), e];simp
def QbD {α : Type} (f : α → List Value) (n : Nat) (e : TypeId) (B : Nat) (v : Value) (l : List α) (w : World) (r : Ending) (w' : World) : Prop :=
 ∃ v', r = .returned v' ∧ Qg f n e w' B v' l ∧ Qa (fun k => some k ≠ v.ownBlock) w w'
set_option maxHeartbeats 4000000 in
theorem KA (v : Value) (l : List Ver) (c : Ver) (i x B : Nat) (w : World) (hown : Qg Qz 4 69 w B v l) (hx : Row w x 69 (Qz c)) (hne : v.ownBlock ≠ some x) (hi : i ≤ l.length) (hn : l.length ≤ 1000000) (hB : B ≤ w.heap.size) (h1 : ∀ y ∈ l, ∀ u ∈ Qz y, u.oneCell' = true) (h2 : ∀ u ∈ Qz c, u.oneCell' = true) :
  Calls Try.prog 93 #[v, .int .i64 i, .slice (some ⟨x, 0, none⟩) 1 1] w (QbD Qz 4 69 B v (l.take i ++ c :: l.drop i) w) := by
 rcases Nat.lt_or_ge i l.length with hlt | hge
 ·rcases hown.ways with ⟨_, h0⟩ | ⟨g, cap, cur, rfl, hBg, hr, hc, hm, hcl, hct⟩
  ·rw [h0] at hlt; simp at hlt
  have hgx : x ≠ g := fun e => hne (by rw [e]; rfl)
  have hrow : (l.take i).flatMap Qz = cur.take (i * 4) := by
   have := congrArg (List.take (i * 4)) hct;rw [List.take_take, Nat.min_eq_left (Nat.mul_le_mul_right _ hi)] at this;rw [ZG Qz 4 Qq, ← this]
  have htail : (l.drop i).flatMap Qz = (cur.take (l.length * 4)).drop (i * 4) := by rw [Zw Qz 4 Qq, hct]
  have hgw := hr.lt;have hxw := hx.lt;obtain ⟨N, hN⟩ : ∃ N, N = l.length := ⟨_, rfl⟩;have hTl : ((l.drop i).flatMap Qz).length = (N - i) * 4 := by rw [XK Qz 4 Qq, List.length_drop, hN]
  have hHl : ((l.take i).flatMap Qz).length = i * 4 := by rw [XK Qz 4 Qq, List.length_take, Nat.min_eq_left hi]
  have hT1 : ∀ u ∈ (l.drop i).flatMap Qz, u.oneCell' = true := fun u hu => by
   obtain ⟨y, hy, hu⟩ := List.mem_flatMap.1 hu;exact h1 y (List.mem_of_mem_drop hy) u hu
  have hres : (l.take i ++ c :: l.drop i).length = N + 1 := by simp; omega
  have hcells := fun D => Us (f := Qz) (n := 4) Qq hi c D
  rw [hres] at hcells
  have htc : ∀ j u, ((l.drop i).flatMap Qz)[j]? = some u → w.cell? ((⟨g, i * 4, none⟩ : Addr).add j) = some u := by
   intro j u hu;rw [X7, hr.cell];rw [htail, List.getElem?_drop, List.getElem?_take] at hu;split at hu
   ·exact hu
   ·cases hu
  have hhc : ∀ j u, ((l.take i).flatMap Qz)[j]? = some u → w.cell? ((⟨g, 0, none⟩ : Addr).add j) = some u := by
   intro j u hu;rw [X7, hr.cell, Nat.zero_add];rw [hrow, List.getElem?_take] at hu;split at hu
   ·exact hu
   ·cases hu
  have hxc : ∀ j u, (Qz c)[j]? = some u → w.cell? ((⟨x, 0, none⟩ : Addr).add j) = some u := by
   intro j u hu;rw [X7, hx.cell, Nat.zero_add];exact hu
  have hcln := Qq c;rw [← hN] at hlt hn hc hct ⊢;have hi1 : (i : Int) + 1 ≤ (N : Int) := by omega
  have hcm : cap ≤ 9223372036854775807 := by unfold maxLen at hm; omega
  obtain ⟨T, hT⟩ : ∃ T, T = (l.drop i).flatMap Qz := ⟨_, rfl⟩;obtain ⟨H, hH⟩ : ∃ H, H = (l.take i).flatMap Qz := ⟨_, rfl⟩;obtain ⟨X, hX⟩ : ∃ X, X = Qz c := ⟨_, rfl⟩;obtain ⟨R, hR⟩ : ∃ R, R = l.take i ++ c :: l.drop i := ⟨_, rfl⟩;rw [← hT] at hTl hT1 htc;rw [← hH] at hHl hhc hrow;rw [← hX] at hxc hcln hx h2;rw [← hR] at hcells hres ⊢;rw [← hT, ← hH, ← hX] at hcells;have Hr := LH hr;have Hx := LH hx;have Htc := LH htc;have Hhc := LH hhc;have Hxc := LH hxc;have Hcells := LH hcells;have Hres := LH hres;have Hrow := LH hrow;have HTl := LH hTl;have HHl := LH hHl;have Hcl := LH hcl;have Hxl := LH hcln;have HT1 := LH hT1;have HX1 := LH h2;clear hr hx htc hhc hxc hcells hres hrow hTl hHl hcl hcln hT1 h1 h2 hct htail hown hT hH hX hR hne hN;by_cases hroom : cap < N + 1
  ·obtain rfl : cap = N := by omega
   have hw1 : IntKind.i64.wrap ((i : Int) + 1) = (i : Int) + 1 := by rw [IntKind.wrap_i64]; omega
   have hw2 : (0 : Int) ≤ (i : Int) + 1 := by omega
   have hw3 : ((i : Int) + 1).toNat = i + 1 := by omega
   have e1 : (cap : Int) < (cap : Int) + 1 := by omega
   have e2 : ¬ ((i : Int) = (cap : Int)) := by omega
   have e3 : ¬ (cap = i) := by omega
   have e4 : (i : Int) ≤ (cap : Int) := by omega
   go_enter Try.func93, Try.ntmps93;go_wp2_with (at_builtin; refine Qf ?_);unfold Hid;refine KB ZD w rfl (.tmp 34) (.tmp 39) 3 rfl (by kernel_rfl) ⟨g, 0, none⟩ i cap (cap + 1 - i) (cap + 1) _ H rfl rfl (by omega) (by omega) HHl.out Hhc.out (by omega) (by omega) (by omega) (by omega) ?_;intro w2 G Z k1 k2 k3 k4 k5 k6;have K1 := LH k1;have K2 := LH k2;have K5 := LH k5;unfold maxLen at k4;have f1 : ¬ (G = i) := by omega
   have f2 : ¬ (G = i + 1) := by omega
   have f3 : (i : Int) ≤ (cap : Int) + 1 := by omega
   have f4 : (cap : Int) + 1 ≤ (G : Int) := by omega
   have f5 : (i : Int) + 1 ≤ (cap : Int) + 1 := by omega
   clear k1 k2 k5;go_wp2_with (with_reducible refine YG rfl ?_);unfold Hid;refine Js ZD w2 rfl (.tmp 43) (.tmp 44) rfl w.heap.size (i * 4) (cap + 1 - i) (G - i) 1 1 1 ⟨x, 0, none⟩ (by first | rfl | simp) rfl (H ++ Z) X 69 K1.out (by simp only [Nat.min_def]; split <;> omega) (by have := Hxl.out; omega) (fun j u hu => K5.out.cell tv (Hxc.out j u hu)) (by rw [List.length_append, HHl.out, Hxl.out, K2.out, ← Nat.add_mul]; have : (i + 1) * 4 ≤ (i + (G - i)) * 4 := Nat.mul_le_mul_right _ (by omega); omega) HX1.out ?_;rw [We HHl.out Hxl.out];intro w3 k7 k8;have hS3 : Qa (fun k => k < w.heap.size) w w3 := (K5.out.mono fun _ _ _ => tv).trans (k8.mono fun k _ hk => by omega);have K7 := LH k7;have HS3 := LH hS3;clear k7 k8 hS3;go_wp2;go_region_law (refine Yz ZD rfl (.tmp 50) (.tmp 53) rfl w.heap.size ((i + 1) * 4) (cap + 1 - (i + 1)) (G - (i + 1)) (cap - i) (cap - i) (cap - i) ⟨g, i * 4, none⟩ (by simp [Act.eval, Act.put]) (by simp [Act.eval, Act.put]) (H ++ X ++ Z.drop 4) T 69 (Row.keep K7.out ((ST).drew) tv) (by simp only [Nat.min_def]; split <;> omega) HTl.out (fun j u hu => ((HS3.out).drew).cell (by rw [QK]; exact hgw) (Htc.out j u hu)) (by rw [List.length_append, List.length_append, HHl.out, Hxl.out, HTl.out, List.length_drop, K2.out, ← Nat.add_mul]; have : (i + 1 + (cap - i)) * 4 ≤ G * 4 := Nat.mul_le_mul_right _ (by omega); have : (G - i) * 4 = G * 4 - i * 4 := Nat.sub_mul _ _ _; omega) HT1.out ?_; intro w4 k9 k10);rw [Wd (by rw [List.length_append, HHl.out, Hxl.out]; omega)] at k9;go_wp2;go_ret;refine ⟨_, rfl, Qg.make hB k9.out (by have := Hres.out; omega) (by simp only [maxLen]; omega) ?_ (by rw [Hres.out]; exact Hcells.out _) Hres.out, ?_⟩
   ·rw [List.length_append, List.length_append, List.length_append, List.length_drop, List.length_drop, HHl.out, Hxl.out, HTl.out, K2.out];omega
   ·refine (HS3.out.drew.trans' k10.out fun q hq hq2 => by omega).mono fun q hq _ => hq
  ·have e1 : ¬ ((cap : Int) < (N : Int) + 1) := by omega
   have hw1 : IntKind.i64.wrap ((i : Int) + 1) = (i : Int) + 1 := by rw [IntKind.wrap_i64]; omega
   have hw2 : (0 : Int) ≤ (i : Int) + 1 := by omega
   have hw3 : ((i : Int) + 1).toNat = i + 1 := by omega
   have hw4 : (i : Int) + 1 ≤ (N : Int) + 1 := by omega
   have e2 : ¬ ((i : Int) = (N : Int)) := by omega
   have e3 : ¬ (cap = i) := by omega
   have e4 : (i : Int) ≤ (N : Int) := by omega
   have e5 : ¬ (cap = i + 1) := by omega
   have e6 : (i : Int) ≤ (N : Int) + 1 := by omega
   have hov := fun lb cb => Ub ZD Try.func107 (by kernel_rfl) (by kernel_rfl) (by kernel_rfl) 4 (by kernel_rfl) w x g X cur ((i + 1) * 4) 1 1 lb cb Hx.out Hr.out (by have := Hcl.out; intro h; rw [h] at this; simp at this; omega) hgx
   go_enter Try.func93, Try.ntmps93;go_wp2_with (simp only [hov]);clear hov;go_region_law (refine Yz ZD rfl (.tmp 73) (.tmp 76) rfl g ((i + 1) * 4) (N + 1 - (i + 1)) (cap - (i + 1)) (N + 1 - i) (cap - i) (N - i) ⟨g, i * 4, none⟩ (by simp [Act.eval, Act.put]) (by simp [Act.eval, Act.put]) cur T 69 (Row.keep Hr.out ((ST).drew) tv) (by simp only [Nat.min_def]; split <;> omega) HTl.out (fun j u hu => Htc.out j u hu) (by rw [HTl.out, Hcl.out, ← Nat.add_mul]; exact Nat.mul_le_mul_right _ (by omega)) HT1.out ?_; intro w4 k9 k10);have K9 := LH k9.out;have K10 := LH k10.out;clear k9 k10;go_wp2_with (with_reducible refine YG rfl ?_);unfold Hid;refine Js ZD w4 rfl (.tmp 80) (.tmp 81) rfl g (i * 4) (N + 1 - i) (cap - i) 1 1 1 ⟨x, 0, none⟩ (by first | rfl | simp) rfl _ X 69 K9.out (by simp only [Nat.min_def]; split <;> omega) (by have := Hxl.out; omega) (fun j u hu => (K10.out.cell (by rw [QK]; exact hgx) (Hxc.out j u hu))) ?_ HX1.out ?_
   ·rw [List.length_append, List.length_append, List.length_take, List.length_drop, Hxl.out, HTl.out, Hcl.out];omega
   rw [show (i + 1) * 4 = i * 4 + 4 from by omega, Uk Hrow.out Hxl.out (by rw [Hcl.out]; omega)];intro w5 k11 k12;have K11 := LH k11;have K12 := LH k12;clear k11 k12;go_wp2;go_ret;refine ⟨_, rfl, Qg.make hBg K11.out (by have := Hres.out; omega) hm ?_ (by rw [Hres.out]; exact Hcells.out _) Hres.out, ?_⟩
   ·rw [List.length_append, List.length_append, List.length_append, List.length_drop, HHl.out, Hxl.out, HTl.out, Hcl.out];omega
   ·refine (((Qa.refl (fun q => q ≠ g) w).drew.trans K10.out).trans K12.out).mono fun q _ hq e => hq ?_
    rw [e]; rfl
 ·obtain rfl : i = l.length := by omega
  rw [List.take_length, List.drop_length];obtain ⟨A, cp, rfl, hc1, hc2⟩ := hown.form;have Hown := LH hown;have Hx := LH hx;unfold maxLen at hc2;clear hown hx hne;rcases Nat.eq_or_lt_of_le hc1 with rfl | hcc
  all_goals
   try have hcc' : ¬ cp = l.length := by omega
   go_enter Try.func93, Try.ntmps93;go_wp2_with (at_builtin; refine Qf ?_);unfold Hid;have hsl := Hx.out.sl (size := 4) (off := 0) (n := 1) (by rw [Qq]; omega);rw [List.drop_zero, List.take_of_length_le (by rw [Qq]; omega)] at hsl;refine Zu ZD _ rfl (.tmp 23) (.tmp 24) rfl B _ l.length (l.flatMap Qz) rfl Hown.out _ _ 1 1 (Qz c) rfl hsl h2 (by simp only [maxLen]; omega) (by omega) hB ?_;intro v' w' k1 k2 k3;have K1 := LH k1;have K2 := LH k2;clear k1 k2 k3 hsl;go_wp2;go_ret;refine ⟨_, rfl, ?_, K2.out⟩;unfold Qg;rw [List.length_append, List.flatMap_append];simpa using K1.out
theorem Qg.set4 {w : World} {B g cap : Nat} {l : List Ver} {cur : List Value} {j : Nat} (a : Ver) (hr : Row w g 69 cur) (hB : B ≤ g) (hc : l.length ≤ cap) (hm : cap ≤ maxLen) (hl : cur.length = cap * 4) (ht : cur.take (l.length * 4) = l.flatMap Qz) (hj : j < l.length) :
  QaW ((((w.setCell ⟨g, j * 4, none⟩ (.int .i64 a.at_.wall)).setCell ⟨g, j * 4 + 1, none⟩ (.int .i64 a.at_.tie)).setCell ⟨g, j * 4 + 2, none⟩ (.bool a.drop)).setCell ⟨g, j * 4 + 3, none⟩ (.string (str a.data))) B (.slice (some ⟨g, 0, none⟩) l.length cap) (l.take j ++ a :: l.drop (j + 1)) := by
 have h1 := (((hr.set_ (j * 4) (.int .i64 a.at_.wall)).set_ (j * 4 + 1) (.int .i64 a.at_.tie)).set_ (j * 4 + 2) (.bool a.drop)).set_ (j * 4 + 3) (.string (str a.data));refine Qg.make hB h1 (by simp; omega) hm (by simpa using hl) ?_ (by simp; omega);have e1 : (l.take j ++ a :: l.drop (j + 1)).length = l.length := by simp; omega
 rw [e1, List.flatMap_append, List.flatMap_cons, ZG Qz 4 Qq, Zw Qz 4 Qq, ← ht];apply List.ext_getElem?;intro k;simp only [List.getElem?_take, List.getElem?_append, List.length_take, List.length_append, Qq, List.getElem?_drop, List.getElem?_set, List.length_set, hl];have hk4 : l.length * 4 ≤ cap * 4 := Nat.mul_le_mul_right _ hc;have hm1 : min (j * 4) (min (l.length * 4) (cap * 4)) = j * 4 := by omega
 rw [hm1];by_cases a1 : k < j * 4
 ·have b1 : k < l.length * 4 := by omega
  have b2 : ¬ j * 4 = k := by omega
  have b3 : ¬ j * 4 + 1 = k := by omega
  have b4 : ¬ j * 4 + 2 = k := by omega
  have b5 : ¬ j * 4 + 3 = k := by omega
  simp [a1, b1, b2, b3, b4, b5]
 ·by_cases a2 : k < j * 4 + 4
  ·have b1 : k < l.length * 4 := by omega
   have b0 : k - j * 4 < 4 := by omega
   have c0 : j * 4 < cap * 4 := by omega
   have c1 : j * 4 + 1 < cap * 4 := by omega
   have c2 : j * 4 + 2 < cap * 4 := by omega
   have c3 : j * 4 + 3 < cap * 4 := by omega
   rcases (show k = j * 4 ∨ k = j * 4 + 1 ∨ k = j * 4 + 2 ∨ k = j * 4 + 3 by omega) with rfl | rfl | rfl | rfl
   ·simp [Qz, c0, b1]
   ·simp [Qz, c1, b1, a1]
   ·simp [Qz, c2, b1, a1]
   ·simp [Qz, c3, b1, a1]
  ·have b2 : ¬ j * 4 = k := by omega
   have b3 : ¬ j * 4 + 1 = k := by omega
   have b4 : ¬ j * 4 + 2 = k := by omega
   have b5 : ¬ j * 4 + 3 = k := by omega
   have b6 : ¬ k - j * 4 < 4 := by omega
   have b7 : (j + 1) * 4 + (k - j * 4 - 4) = k := by omega
   simp [a1, b2, b3, b4, b5, b6, b7]
set_option maxHeartbeats 4000000 in
theorem Qbj (v : Value) (l : List Ver) (a : Ver) (B : Nat) (w : World) (hown : QaW w B v l) (hB : B ≤ w.heap.size) (hs : XU l) (hn : l.length ≤ 1000000) :
  Calls Try.prog 66 #[v, QbT a] w (QbD Qz 4 69 B v (X9 l a) w) := by
 obtain ⟨A, cp, rfl, hc, hm⟩ := hown.form;unfold maxLen at hm;have hr := Row.new w 69 (Qz a);have hS := (Qa.refl (fun _ => True) w).alloc (.cells (Qz a).toArray 69);have hown1 := hown.keepAll hS;have Hr := LH hr;have Hown := LH hown;have Hown1 := LH hown1;clear hr hown hown1 hS;go_enter Try.func66, Try.ntmps66;go_wp2_with (go_at_call 72; refine Qf ?_);unfold Hid;refine (Yq (.slice A l.length cp) l a.at_ _ _ (Hown1.out.wr.row Qq)).mono ?_;rintro e w1 ⟨rfl, hS1⟩;have hr1 := Hr.out.keep hS1 tv;have hown2 := Hown1.out.keepAll hS1;have hS2 := ((Qa.refl (fun _ => True) w).alloc (.cells (Qz a).toArray 69)).trans hS1;have hbd := Jm l a.at_;have c0 : w1.cell? ⟨w.heap.size, 0, none⟩ = some (.int .i64 a.at_.wall) := hr1.cell 0;have c1 : w1.cell? ⟨w.heap.size, 1, none⟩ = some (.int .i64 a.at_.tie) := hr1.cell 1;have c2 : w1.cell? ⟨w.heap.size, 2, none⟩ = some (.bool a.drop) := hr1.cell 2;have c3 : w1.cell? ⟨w.heap.size, 3, none⟩ = some (.string (str a.data)) := hr1.cell 3;have hlt := hr1.lt;have Hr1 := LH hr1;have Hown2 := LH hown2;have HS2 := LH hS2;clear hr1 hown2 hS2 hS1;rcases Int.lt_or_le (Xs l a.at_) 0 with hneg | hpos
 ·have hlm : Xs l a.at_ = -1 := by omega
  have hput : X9 l a = l.take 0 ++ a :: l.drop 0 := by
   have := Yd (v := a) hs (fun _ h => absurd h (by omega));rw [hlm] at this;exact this
  have Hput := LH hput;rw [hlm];clear hput hs hlm hneg hbd;go_wp2;go_quiet (fail);go_wp2_with (go_at_call 93; refine Qf ?_);unfold Hid;have hSa := ((HS2.out).drewN nq).alloc (.cells (Qz a).toArray 69);have hSb := ((Qa.refl (fun _ => True) w1).drewN nq).alloc (.cells (Qz a).toArray 69);have gi := KA (.slice A l.length cp) l a 0 w1.heap.size B ((w1.drewN nq).alloc (.cells (Qz a).toArray 69)) (Hown2.out.keepAll hSb) (Row.new (w1.drewN nq) 69 (Qz a)) (fun e => by have := (Hown2.out.lt_ e).2; omega) (by omega) hn (by have := hSa.size; omega) (fun y _ => QV y) (QV a);rw [show ((0 : Nat) : Int) = 0 from rfl] at gi;have HSa := LH hSa;clear hSa hSb;refine gi.mono ?_;rintro e w5 ⟨v5, rfl, hown5, hS5⟩;have Hown5 := LH hown5;have HS5 := LH hS5;clear hown5 hS5 gi;go_wp2;go_ret;refine ⟨_, rfl, ?_, (HSa.out.mono fun _ _ _ => tv).trans HS5.out⟩;rw [Hput.out]; exact Hown5.out
 ·obtain ⟨j, hj⟩ := Int.eq_ofNat_of_zero_le hpos;have hjl : j < l.length := by omega
  rcases Hown2.out.ways with ⟨_, h0⟩ | ⟨g, cap, cur, heq, hBg, hrow, hcc, hmm, hcl, hct⟩
  ·rw [h0] at hjl; simp at hjl
  injection heq with heq _ heq2;subst heq heq2;obtain ⟨ad, e0, hSad, d0, d1, d2, d3⟩ := Zl.cells (Hown2.out.wr.row Qq) hjl;injection e0 with e0;subst e0;rw [X7, Nat.zero_add] at d0;simp only [X7, Nat.zero_add] at d1 d2 d3;have f0 := hrow.frozen (j * 4);have f1 := hrow.frozen (j * 4 + 1);have f2 := hrow.frozen (j * 4 + 2);have f3 := hrow.frozen (j * 4 + 3);have hgw := hrow.lt;have y1 : (0 : Int) ≤ (j : Int) := by omega
  have y2 : (j : Int) < (l.length : Int) := by omega
  have Hrow := LH hrow;have Hcl := LH hcl;have Hct := LH hct;clear hrow hcl hct hSad;by_cases hw : l[j].at_ = a.at_
  ·have hput := Wc (v := a) hjl hs hw;have Hput := LH hput;rw [hw] at d0 d1;rw [hj];clear hput hs hw hj hpos hbd;go_wp2;go_quiet (fail);go_wp2;go_ret;have h4 := Qg.set4 a (Row.keep Hrow.out ((ST).drewN nq) tv) hBg hcc hmm Hcl.out Hct.out hjl;refine ⟨_, rfl, ?_, ?_⟩
   ·rw [Hput.out];exact h4
   ·have hS5 := ((HS2.out).drewN nq).mono (S' := fun k => k ≠ g) fun _ _ _ => tv
    exact ((((hS5.setCell (p := ⟨g, j * 4, none⟩) (fun _ h => h rfl) _).setCell (p := ⟨g, j * 4 + 1, none⟩) (fun _ h => h rfl) _).setCell (p := ⟨g, j * 4 + 2, none⟩) (fun _ h => h rfl) _).setCell (p := ⟨g, j * 4 + 3, none⟩) (fun _ h => h rfl) _).mono fun k _ hk e => hk (by rw [e]; rfl)
  ·have hput : X9 l a = l.take (j + 1) ++ a :: l.drop (j + 1) := by
    have := Yd (v := a) hs (fun h1 _ => by
     have e : (Xs l a.at_).toNat = j := by omega
     simp only [e]
     exact hw)
    rw [hj] at this;exact this
   have Hput := LH hput;rw [hj]
   have hwb : ((l[j].at_.wall == a.at_.wall) && (l[j].at_.tie == a.at_.tie)) = false := by
    cases h : ((l[j].at_.wall == a.at_.wall) && (l[j].at_.tie == a.at_.tie))
    ·rfl
    ·simp at h;exact absurd ((QaV _ _).2 h) hw
   generalize l[j].at_ = b at *;clear hput hs hw hj hpos hbd;by_cases b1 : b.wall = a.at_.wall
   ·have b2 : (b.tie == a.at_.tie) = false := by simpa [b1] using hwb
    rw [b1] at d0;clear hwb b1;go_wp2;go_quiet (fail);go_wp2_with (go_at_call 93; refine Qf ?_);unfold Hid;have hSa := ((HS2.out).drewN nq).alloc (.cells (Qz a).toArray 69);have hSb := ((Qa.refl (fun _ => True) w1).drewN nq).alloc (.cells (Qz a).toArray 69);have gi := KA (.slice (some ⟨g, 0, none⟩) l.length cp) l a (j + 1) w1.heap.size B ((w1.drewN nq).alloc (.cells (Qz a).toArray 69)) (Hown2.out.keepAll hSb) (Row.new (w1.drewN nq) 69 (Qz a)) (fun e => by have := (Hown2.out.lt_ e).2; omega) (by omega) hn (by have := hSa.size; omega) (fun y _ => QV y) (QV a);rw [show ((j + 1 : Nat) : Int) = (j : Int) + 1 from rfl] at gi;have HSa := LH hSa;clear hSa hSb;refine gi.mono ?_;rintro e w5 ⟨v5, rfl, hown5, hS5⟩;have Hown5 := LH hown5;have HS5 := LH hS5;clear hown5 hS5 gi;go_wp2;go_ret;refine ⟨_, rfl, ?_, (HSa.out.mono fun _ _ _ => tv).trans HS5.out⟩;rw [Hput.out]; exact Hown5.out
   ·have b2 : (b.wall == a.at_.wall) = false := by simpa using b1
    clear hwb b1;go_wp2;go_quiet (fail);go_wp2_with (go_at_call 93; refine Qf ?_);unfold Hid;have hSa := ((HS2.out).drewN nq).alloc (.cells (Qz a).toArray 69);have hSb := ((Qa.refl (fun _ => True) w1).drewN nq).alloc (.cells (Qz a).toArray 69);have gi := KA (.slice (some ⟨g, 0, none⟩) l.length cp) l a (j + 1) w1.heap.size B ((w1.drewN nq).alloc (.cells (Qz a).toArray 69)) (Hown2.out.keepAll hSb) (Row.new (w1.drewN nq) 69 (Qz a)) (fun e => by have := (Hown2.out.lt_ e).2; omega) (by omega) hn (by have := hSa.size; omega) (fun y _ => QV y) (QV a);rw [show ((j + 1 : Nat) : Int) = (j : Int) + 1 from rfl] at gi;have HSa := LH hSa;clear hSa hSb;refine gi.mono ?_;rintro e w5 ⟨v5, rfl, hown5, hS5⟩;have Hown5 := LH hown5;have HS5 := LH hS5;clear hown5 hS5 gi;go_wp2;go_ret;refine ⟨_, rfl, ?_, (HSa.out.mono fun _ _ _ => tv).trans HS5.out⟩;rw [Hput.out]; exact Hown5.out
def Wn (wr : World) (g : Nat) (b0 b1 b2 b3 b4 b5 b6 b7 b8 b9 b10 b11 : Value) : World := ((((((((((((wr.setCell ⟨g, 0, none⟩ b0).setCell ⟨g, 1, none⟩ b1).setCell ⟨g, 2, none⟩ b2).setCell ⟨g, 3, none⟩ b3).setCell ⟨g, 4, none⟩ b4).setCell ⟨g, 5, none⟩ b5).setCell ⟨g, 6, none⟩ b6).setCell ⟨g, 7, none⟩ b7).setCell ⟨g, 8, none⟩ b8).setCell ⟨g, 9, none⟩ b9).setCell ⟨g, 10, none⟩ b10).setCell ⟨g, 11, none⟩ b11)
theorem QaC (wr : World) (g : Nat) (b0 b1 b2 b3 b4 b5 b6 b7 b8 b9 b10 b11 : Value) : Wn wr g b0 b1 b2 b3 b4 b5 b6 b7 b8 b9 b10 b11 = ((((((((((((wr.setCell ⟨g, 0, none⟩ b0).setCell ⟨g, 1, none⟩ b1).setCell ⟨g, 2, none⟩ b2).setCell ⟨g, 3, none⟩ b3).setCell ⟨g, 4, none⟩ b4).setCell ⟨g, 5, none⟩ b5).setCell ⟨g, 6, none⟩ b6).setCell ⟨g, 7, none⟩ b7).setCell ⟨g, 8, none⟩ b8).setCell ⟨g, 9, none⟩ b9).setCell ⟨g, 10, none⟩ b10).setCell ⟨g, 11, none⟩ b11) := rfl
theorem WZ {wr : World} {g : Nat} {a0 a1 a2 a3 a4 a5 a6 a7 a8 a9 a10 a11 b0 b1 b2 b3 b4 b5 b6 b7 b8 b9 b10 b11 : Value} (HR : Row wr g 64 [a0, a1, a2, a3, a4, a5, a6, a7, a8, a9, a10, a11]) :
  Row (Wn wr g b0 b1 b2 b3 b4 b5 b6 b7 b8 b9 b10 b11) g 64 [b0, b1, b2, b3, b4, b5, b6, b7, b8, b9, b10, b11] ∧ Qa (fun q => q ≠ g) wr (Wn wr g b0 b1 b2 b3 b4 b5 b6 b7 b8 b9 b10 b11) :=
 J8 (fun _ h => h rfl) HR SR
theorem QaO {P : Program} {w : World} {ops : Array Oper} {rest : List Oper} {o : Oper} {a : Act} {Q : Exit → Act → World → Prop} {t : TypeId} {x : Operand} (n : Nat)
  (_ho : o.op = .fieldAddr t x n) (h : Hid (wpList P ops Q (o :: rest) a w)) : wpList P ops Q (o :: rest) a w := h
theorem QC {P : Program} {w : World} {ops : Array Oper} {rest : List Oper} {o : Oper} {a : Act} {Q : Exit → Act → World → Prop} (n : Nat)
  (_ho : o.dst = some n) (h : Hid (wpList P ops Q (o :: rest) a w)) : wpList P ops Q (o :: rest) a w := h
def KI (wr : World) (g : Nat) (b2 b3 b4 b5 b6 b7 b8 b9 b10 b11 : Value) : World := ((((((((((wr.setCell ⟨g, 2, none⟩ b2).setCell ⟨g, 3, none⟩ b3).setCell ⟨g, 4, none⟩ b4).setCell ⟨g, 5, none⟩ b5).setCell ⟨g, 6, none⟩ b6).setCell ⟨g, 7, none⟩ b7).setCell ⟨g, 8, none⟩ b8).setCell ⟨g, 9, none⟩ b9).setCell ⟨g, 10, none⟩ b10).setCell ⟨g, 11, none⟩ b11)
theorem JG (wr : World) (g : Nat) (b2 b3 b4 b5 b6 b7 b8 b9 b10 b11 : Value) : KI wr g b2 b3 b4 b5 b6 b7 b8 b9 b10 b11 = ((((((((((wr.setCell ⟨g, 2, none⟩ b2).setCell ⟨g, 3, none⟩ b3).setCell ⟨g, 4, none⟩ b4).setCell ⟨g, 5, none⟩ b5).setCell ⟨g, 6, none⟩ b6).setCell ⟨g, 7, none⟩ b7).setCell ⟨g, 8, none⟩ b8).setCell ⟨g, 9, none⟩ b9).setCell ⟨g, 10, none⟩ b10).setCell ⟨g, 11, none⟩ b11) := rfl
theorem J9 {wr : World} {g : Nat} {a0 a1 a2 a3 a4 a5 a6 a7 a8 a9 a10 a11 b2 b3 b4 b5 b6 b7 b8 b9 b10 b11 : Value} (HR : Row wr g 64 [a0, a1, a2, a3, a4, a5, a6, a7, a8, a9, a10, a11]) :
  Row (KI wr g b2 b3 b4 b5 b6 b7 b8 b9 b10 b11) g 64 [a0, a1, b2, b3, b4, b5, b6, b7, b8, b9, b10, b11] ∧ Qa (fun q => q ≠ g) wr (KI wr g b2 b3 b4 b5 b6 b7 b8 b9 b10 b11) := by
 refine ⟨((((((((((HR.set_ 2 b2).set_ 3 b3).set_ 4 b4).set_ 5 b5).set_ 6 b6).set_ 7 b7).set_ 8 b8).set_ 9 b9).set_ 10 b10).set_ 11 b11), ?_⟩;rw [JG]
 repeat (refine Qa.setCell ?_ (fun _ h => h rfl) _)
 exact Qa.refl _ _
structure ZM (f : Cel → List Cel) (cs : List Cel) (B p : Nat) (ty : TypeId) (xs : List Value) (k : Nat) (l : Value) (w wr : World) : Prop where
 le : k ≤ cs.length
 own : QY wr B l ((cs.take k).flatMap f)
 row : Row wr p ty xs
 lt : p < B
 size : B ≤ wr.heap.size
 same : Qa (fun _ => True) w wr
section
variable {f : Cel → List Cel} {cs : List Cel} {B p : Nat} {ty : TypeId} {xs : List Value} {k : Nat} {l : Value} {w wr W : World}
theorem J1 {k : Nat} (h : k < cs.length) : (cs.take (k + 1)).flatMap f = (cs.take k).flatMap f ++ f cs[k] := by
 rw [List.take_succ_eq_append_getElem h, List.flatMap_append];simp
theorem ZM.next (h : ZM f cs B p ty xs k l w wr) (hk : k < cs.length) (hf : f cs[k] = []) (hS : Qa (fun _ => True) wr W) : ZM f cs B p ty xs (k + 1) l w W :=
 ⟨hk, by rw [J1 hk, hf, List.append_nil]; exact h.own.keepAll hS, h.row.keep hS tv, h.lt, Nat.le_trans h.size hS.size, h.same.trans hS⟩
theorem ZM.more {l' : Value} {c : Cel} (h : ZM f cs B p ty xs k l w wr) (hk : k < cs.length) (hf : f cs[k] = [c]) (ho : QY W B l' ((cs.take k).flatMap f ++ [c])) (hw : w.heap.size ≤ B) (hS : Qa (fun q => q < B) wr W) : ZM f cs B p ty xs (k + 1) l' w W :=
 ⟨hk, by rw [J1 hk, hf]; exact ho, h.row.keep hS h.lt, h.lt, Nat.le_trans h.size hS.size, h.same.trans' hS fun q hq _ => Nat.lt_of_lt_of_le hq hw⟩
theorem Za {w7 w0 : World} {ops : Array Oper} {rest : List Oper} {o : Oper} {a : Act} {Q : Exit → Act → World → Prop} (hgd : o.guard = none) (s x : Operand)
  (ho : o.op = .call { callee := .builtin .append, args := #[s, x], argTypes := #[33, 33] }) {v : Value} {c : Cel} {A : Option Addr} {n cp : Nat} {arr : Array Value}
  (hs : a.eval s = v) {g : Nat} (hx : a.eval x = .slice (some ⟨g, 0, none⟩) 1 1) (hg : g = W.heap.size) (harr : arr = (Qj (.slice A n cp, c)).toArray) (h : ZM f cs B p ty xs k v w0 wr) (hf1 : ∀ c, (f c).length ≤ 1) (hk : k < cs.length) (hf : f cs[k] = [c]) (hn : cs.length ≤ 100000) (hw : w0.heap.size ≤ B)
  {Sx : Nat → Prop} (hu : X5 Qz 4 69 w7 Sx (.slice A n cp) c.vers) (hSx : ∀ q, Sx q → B ≤ q) (hS7 : Qa Sx w7 W) (hS : Qa (fun _ => True) wr W)
  (hK : ∀ v' w', Hid (ZM f cs B p ty xs (k + 1) v' w0 w') → wpList Try.prog ops Q rest (a.put o.dst v') w') : wpList Try.prog ops Q (o :: rest) a (W.alloc (.cells arr 64)) := by
 subst harr;have hle := Je hf1 (cs.take k);rw [List.length_take] at hle;refine Xu (w := W) (c := c) (B := B) hgd s x ho hs hx hg (h.own.keepAll hS) ((hu.keep hS7).mono fun q _ h => hSx q h) (Nat.le_trans h.size hS.size) (by omega) fun v' w' h1 h2 => hK v' w' (LH (h.more hk hf h1 hw ((hS.mono fun _ _ _ => tv).trans h2)))
end
set_option maxHeartbeats 4000000 in
theorem UF (v : Value) (cs : List Cel) (b : QZ) (yes : Bool) (S : Nat → Prop) (w : World) (hv : QU w S v cs) (hn : cs.length ≤ 100000) (hn2 : ∀ c ∈ cs, c.vers.length ≤ 1000000) (hso : ∀ c ∈ cs, XU c.vers) :
  Calls Try.prog 25 #[v, QH b, .bool yes] w (KZ (Xz cs b yes) w) := by
 obtain ⟨A, cp, rfl, hc, hm⟩ := hv.form;have Hv := LH hv;have Hn2 := LH hn2;have Hso := LH hso
 have hrel0 : ZM (Q7 b yes) cs (w.heap.size + 1) w.heap.size 26 (XM b) 0 (.slice none 0 0) w (w.alloc (.cells (XM b).toArray 26)) :=
  ⟨Nat.zero_le _, QY.nil _ _, Row.new _ _ _, by omega, by simp, SR.alloc _⟩
 have Hrel0 := LH hrel0;unfold maxLen at hm;clear hv hn2 hrel0 hso;go_enter Try.func25, Try.ntmps25;go_wp2;go_loopw [7, 9, 12] (fun l _ i wr => ∃ k : Nat, i = .int .i64 k ∧ ZM (Q7 b yes) cs (w.heap.size + 1) w.heap.size 26 (XM b) k l w wr) (fun _ _ i _ => cs.length - (intOf i).toNat)
 case atStart => exact ⟨0, rfl, Hrel0.out⟩
 case round =>
  obtain ⟨k, rfl, hrel⟩ := hrel;have hk := hrel.le;have hS := hrel.same;have HS := LH hS;have hsz := hrel.row.lt;obtain ⟨Al, nl, cl, rfl, hl1, hl2⟩ := hrel.own.form3;have Hrel := LH hrel;unfold maxLen at hl2;by_cases hlt : k < cs.length
  ·obtain ⟨ad, u, rfl, -, hvr, c0, c1, c2, c3, c4, c5, c6, c7, c8, c9, c10, c11⟩ := QU.cells12 (Hv.out.keepAll hS) hlt;obtain ⟨Au, cu, rfl, -, -⟩ := hvr.form;have x1 : (0 : Int) ≤ (k : Int) := by omega
   have x2 : (k : Int) < (cs.length : Int) := by omega
   have hab := World.block_lt_of_cell? wr _ c0;have hcl := Hn2.out cs[k] (List.getElem_mem hlt);have hcs := Hso.out cs[k] (List.getElem_mem hlt);obtain ⟨c, hck⟩ : ∃ c, c = cs[k] := ⟨_, rfl⟩;rw [← hck] at c0 c1 c2 c3 c4 c5 c6 c7 c8 c9 c10 c11 hvr hcl hcs;have Hck := LH hck;have Hcs := LH hcs;have Hvr := LH hvr;clear hvr hS hck hrel hcs;have hrow := Row.new wr 64 (Qj (.slice Au c.vers.length cu, c));have Hrow := LH hrow;have g := UA (.slice Au c.vers.length cu) c S (wr.alloc (.cells (Qj (.slice Au c.vers.length cu, c)).toArray 64)) (Qw.keepAll Hvr.out (SR.alloc _)) hcl;clear hrow;go_wp2_with (go_at_call 65; refine Qf ?_);unfold Hid;refine g.mono ?_;rintro e w5 ⟨u', rfl, hown5, hS5⟩;obtain ⟨A5, c5', rfl, hq1, hq2⟩ := hown5.form;unfold maxLen at hq2;have hbox := Hrow.out.keep hS5 tv;have hS6 := ((Qa.refl (fun _ => True) wr).alloc (.cells (Qj (.slice Au c.vers.length cu, c)).toArray 64)).trans hS5;have HS6 := LH hS6;have Hown5 := LH hown5;have Hbox := LH hbox;obtain ⟨a0, a1, a2, a3, a4, a5, a6, a7, a8, a9, a10, a11, f0, f1, f2, f3, f4, f5, f6, f7, f8, f9, f10, f11⟩ := QD hbox;have z0 := hbox.lt;clear hS5 hS6 hown5 hbox g c0 c1 c2 c3 c4 c5 c6 c7 c8 c9 c10 c11;go_wp2_with (with_reducible refine QaO 2 rfl ?_);unfold Hid;clear a0 a1 a2 a3 a4 a5 a6 a7 a8 a9 a10 a11 f0 f1 f2 f3 f4 f5 f6 f7 f8 f9 f10 f11;rw [← QaC];obtain ⟨r1, r2⟩ := WZ (b0 := .string (str c.key)) (b1 := .slice A5 c.vers.length c5') (b2 := .bool c.locked) (b3 := .int .i64 c.lock.by_.node) (b4 := .int .i64 c.lock.by_.life) (b5 := .int .i64 c.lock.by_.seq) (b6 := .int .i64 c.lock.by_.attempt) (b7 := .int .i64 c.lock.home) (b8 := .int .i64 c.lock.at_.wall) (b9 := .int .i64 c.lock.at_.tie) (b10 := .bool c.lock.drop) (b11 := .string (str c.lock.data)) Hbox.out;revert r1 r2;generalize Wn w5 wr.heap.size _ _ _ _ _ _ _ _ _ _ _ _ = W7;intro r1 r2;have hown7 := (Hown5.out.keep r2 fun j h1 h2 => by rw [World.size_alloc] at h1; omega).lower (B' := wr.heap.size + 1) (by rw [World.size_alloc]; omega);have hS7 : Qa (fun _ => True) wr W7 := HS6.out.trans' r2 fun j hj _ => by omega
   have z7 := r1.lt;obtain ⟨a0, a1, a2, a3, a4, a5, a6, a7, a8, a9, a10, a11, f0, f1, f2, f3, f4, f5, f6, f7, f8, f9, f10, f11⟩ := QD r1;have hrowb := Hrel.out.row.keep hS7 tv;have t0 : W7.cell? ⟨w.heap.size, 0, none⟩ = some (.int .i64 b.node) := hrowb.cell 0;have t1 : W7.cell? ⟨w.heap.size, 1, none⟩ = some (.int .i64 b.life) := hrowb.cell 1;have t2 : W7.cell? ⟨w.heap.size, 2, none⟩ = some (.int .i64 b.seq) := hrowb.cell 2;have t3 : W7.cell? ⟨w.heap.size, 3, none⟩ = some (.int .i64 b.attempt) := hrowb.cell 3;have HS7 := LH hS7;have Hown7 := LH hown7;have Hbox7 := LH r1;clear r1 r2 hown7 hS7 hrowb;cases hl : c.locked
   ·rw [hl] at a2;have hmb : Xb c b = false := by unfold Xb; rw [hl]; rfl
    by_cases hlen : c.vers.length = 0
    ·have hf : Q7 b yes cs[k] = [] := by rw [← Hck.out]; unfold Q7; rw [hmb]; simp [Qv, hl, List.length_eq_zero_iff.1 hlen]
     have Hf := LH hf;have e1 : (c.vers.length : Int) = 0 := by omega
     clear hf hmb hlen hl;go_wp2;go_roundw
     case rel =>
      refine ⟨k + 1, by go_num, Hrel.out.next hlt Hf.out (HS7.out.trans' (S' := fun q => q ≠ wr.heap.size) ?_ fun q hq _ => by omega)⟩
      repeat (refine Qa.setCell ?_ (fun _ h => h rfl) _)
      exact Qa.refl _ _
     case measure => simp [intOf]; omega
    ·have hf : Q7 b yes cs[k] = [c] := by
      rw [← Hck.out]; unfold Q7; rw [hmb];have hne : c.vers ≠ [] := fun h => hlen (by rw [h]; rfl)
      simp [Qv, hne]
     have Hf := LH hf;have e1 : (0 : Int) < (c.vers.length : Int) := by omega
     clear hf hmb hlen;go_wp2_with (at_builtin; refine Qf ?_);unfold Hid;refine Za (c := c) (B := w.heap.size + 1) rfl (.tmp 53) (.tmp 55) rfl rfl rfl (by first | rfl | simp) (by simp [Qj, Qn, Lck.zero, str, hl]) Hrel.out (Xj b _) hlt Hf.out hn (by omega) Hown7.out.wr (fun q h => by omega) ?_ ?_ ?_
     ·repeat (refine Qa.setCell ?_ (fun _ h => by omega) _)
      exact Qa.refl _ _
     ·refine HS7.out.trans' (S' := fun q => q ≠ wr.heap.size) ?_ fun q hq _ => by omega
      repeat (refine Qa.setCell ?_ (fun _ h => h rfl) _)
      exact Qa.refl _ _
     intro v' w9 Hrel9;go_wp2;go_roundw
     case rel => exact ⟨k + 1, by go_num, Hrel9.out⟩
     case measure => simp [intOf]; omega
   ·rw [hl] at a2;rcases YT c.lock.by_ b with he | ⟨he, h | ⟨h1, h⟩ | ⟨h1, h2, h⟩ | ⟨h1, h2, h3, h⟩⟩
    ·rw [← he] at t0 t1 t2 t3;have hmb : Xb c b = true := by unfold Xb; rw [hl, he]; simp
     cases yes
     ·have hv7 := Hown7.out.wr;have Hv7 := LH hv7;clear hv7;go_wp2_with (with_reducible refine QC 45 rfl ?_);unfold Hid;clear a0 a1 a2 a3 a4 a5 a6 a7 a8 a9 a10 a11 f0 f1 f2 f3 f4 f5 f6 f7 f8 f9 f10 f11 t0 t1 t2 t3;rw [← JG];obtain ⟨r1, r2⟩ := J9 (b2 := .bool false) (b3 := .int .i64 0) (b4 := .int .i64 0) (b5 := .int .i64 0) (b6 := .int .i64 0) (b7 := .int .i64 0) (b8 := .int .i64 0) (b9 := .int .i64 0) (b10 := .bool false) (b11 := .string ⟨#[]⟩) Hbox7.out;revert r1 r2;generalize KI W7 wr.heap.size _ _ _ _ _ _ _ _ _ _ = W9;intro r1 r2;have hv9 := Hv7.out.keep (r2.mono fun q _ hq => by omega);have hS9 : Qa (fun _ => True) wr W9 := HS7.out.trans' r2 fun j hj _ => by omega
      obtain ⟨a0, a1, a2, a3, a4, a5, a6, a7, a8, a9, a10, a11, -⟩ := QD r1;have HS7 := LH hS9;have Hv7 := LH hv9;clear r1 r2 hS9 hv9;by_cases hlen : c.vers.length = 0
      ·have hf : Q7 b false cs[k] = [] := by rw [← Hck.out]; unfold Q7; rw [hmb]; simp [Qv, X6, List.length_eq_zero_iff.1 hlen]
       have Hf := LH hf;have e1 : (c.vers.length : Int) = 0 := by omega
       clear hf hmb hlen hl he;go_wp2;go_roundw
       case rel =>
        refine ⟨k + 1, by go_num, Hrel.out.next hlt Hf.out (HS7.out.trans' (S' := fun q => q ≠ wr.heap.size) ?_ fun q hq _ => by omega)⟩
        repeat (refine Qa.setCell ?_ (fun _ h => h rfl) _)
        exact Qa.refl _ _
       case measure => simp [intOf]; omega
      ·have hf : Q7 b false cs[k] = [X6 false c] := by
        rw [← Hck.out]; unfold Q7; rw [hmb];have hne : c.vers ≠ [] := fun h => hlen (by rw [h]; rfl)
        simp [Qv, X6, hne]
       have Hf := LH hf;have e1 : (0 : Int) < (c.vers.length : Int) := by omega
       clear hf hmb hlen he;go_wp2_with (at_builtin; refine Qf ?_);unfold Hid;refine Za (c := X6 false c) (B := w.heap.size + 1) rfl (.tmp 53) (.tmp 55) rfl rfl rfl (by first | rfl | simp) (by simp [Qj, Qn, Lck.zero, str, hl, X6]) Hrel.out (Xj b _) hlt Hf.out hn (by omega) Hv7.out (fun q h => by omega) ?_ ?_ ?_
       ·repeat (refine Qa.setCell ?_ (fun _ h => by omega) _)
        exact Qa.refl _ _
       ·refine HS7.out.trans' (S' := fun q => q ≠ wr.heap.size) ?_ fun q hq _ => by omega
        repeat (refine Qa.setCell ?_ (fun _ h => h rfl) _)
        exact Qa.refl _ _
       intro v' w9 Hrel9;go_wp2;go_roundw
       case rel => exact ⟨k + 1, by go_num, Hrel9.out⟩
       case measure => simp [intOf]; omega
     ·have hpl := Kj c.vers (ZU c)
      have hf : Q7 b true cs[k] = [X6 true c] := by
       rw [← Hck.out]; unfold Q7; rw [hmb];have hne : X9 c.vers (ZU c) ≠ [] := fun h => by rw [h] at hpl; simp at hpl
       simp [Qv, X6, hne]
      have Hf := LH hf;have e1 : (0 : Int) < ((X9 c.vers (ZU c)).length : Int) := by omega
      have gp := Qbj (.slice A5 c.vers.length c5') c.vers (ZU c) (wr.heap.size + 1) W7 Hown7.out (by omega) Hcs.out hcl;unfold ZU at gp;clear hf hmb he hpl;go_wp2_with (go_at_call 66; refine Qf ?_);unfold Hid;refine gp.mono ?_;rintro e w8 ⟨v8, rfl, hown8, hS8⟩
      obtain ⟨A8, n8, c8, rfl, hn8⟩ : ∃ Aq nq cq, v8 = .slice Aq nq cq ∧ nq = (X9 c.vers (ZU c)).length := by
       obtain ⟨Aq, cq, h1, h2, h3⟩ := hown8.form;exact ⟨Aq, _, cq, h1, rfl⟩
      have hS9 : Qa (fun q => q < wr.heap.size + 1) W7 w8 := hS8.mono fun q _ hq e => by
       have := (Hown7.out.lt_ e.symm).1;omega
      have hbox8 := Hbox7.out.keep hS9 (by omega);have hS10 : Qa (fun _ => True) wr w8 := HS7.out.trans' hS9 fun q hq _ => by omega
      have z8 := hbox8.lt;have g1 := hbox8.frozen 1;have b1 : w8.cell? ⟨wr.heap.size, 1, none⟩ = some (.slice A5 c.vers.length c5') := hbox8.cell 1;have Hown8 := LH hown8.wr;have Hbox8 := LH hbox8;have HS8 := LH hS10;rw [← hn8] at e1;have Hn8 := LH hn8;clear hn8 hown8 hS8 hS9 hbox8 hS10 gp a0 a1 a2 a3 a4 a5 a6 a7 a8 a9 a10 a11 f0 f1 f2 f3 f4 f5 f6 f7 f8 f9 f10 f11;go_wp2_with (with_reducible refine QC 43 rfl ?_);unfold Hid;have r1 := Hbox8.out.set_ 1 (.slice A8 n8 c8);have r2 : Qa (fun q => q ≠ wr.heap.size) w8 (w8.setCell ⟨wr.heap.size, 1, none⟩ (.slice A8 n8 c8)) := SR.setCell (fun _ h => h rfl) _;revert r1 r2;generalize w8.setCell ⟨wr.heap.size, 1, none⟩ (.slice A8 n8 c8) = W8;intro r1 r2;simp only [List.set_cons_succ, List.set_cons_zero] at r1;have hv8 := Hown8.out.keep (r2.mono fun q _ hq => by omega);have hS9 : Qa (fun _ => True) wr W8 := HS8.out.trans' r2 fun j hj _ => by omega
      obtain ⟨W7, rfl⟩ : ∃ W7, W7 = W8 := ⟨_, rfl⟩;obtain ⟨a0, a1, a2, a3, a4, a5, a6, a7, a8, a9, a10, a11, f0, f1, f2, f3, f4, f5, f6, f7, f8, f9, f10, f11⟩ := QD r1;have z7 := r1.lt;have HS7 := LH hS9;have Hv7 := LH hv8;have Hbox7 := LH r1;clear r1 r2 hS9 hv8 b1 g1;go_wp2_with (with_reducible refine QC 45 rfl ?_);unfold Hid;clear a0 a1 a2 a3 a4 a5 a6 a7 a8 a9 a10 a11 f0 f1 f2 f3 f4 f5 f6 f7 f8 f9 f10 f11;rw [← JG];obtain ⟨r1, r2⟩ := J9 (b2 := .bool false) (b3 := .int .i64 0) (b4 := .int .i64 0) (b5 := .int .i64 0) (b6 := .int .i64 0) (b7 := .int .i64 0) (b8 := .int .i64 0) (b9 := .int .i64 0) (b10 := .bool false) (b11 := .string ⟨#[]⟩) Hbox7.out;revert r1 r2;generalize KI W7 wr.heap.size _ _ _ _ _ _ _ _ _ _ = W9;intro r1 r2;have hv9 := Hv7.out.keep (r2.mono fun q _ hq => by omega);have hS9 : Qa (fun _ => True) wr W9 := HS7.out.trans' r2 fun j hj _ => by omega
      obtain ⟨a0, a1, a2, a3, a4, a5, a6, a7, a8, a9, a10, a11, -⟩ := QD r1;have HS7 := LH hS9;have Hv7 := LH hv9;clear r1 r2 hS9 hv9;go_wp2_with (at_builtin; refine Qf ?_);unfold Hid;refine Za (c := X6 true c) (B := w.heap.size + 1) rfl (.tmp 53) (.tmp 55) rfl rfl rfl (by first | rfl | simp) (by simp [Qj, Qn, Lck.zero, str, hl, X6, Hn8.out, ZU]) Hrel.out (Xj b _) hlt Hf.out hn (by omega) Hv7.out (fun q h => by omega) ?_ ?_ ?_
      ·repeat (refine Qa.setCell ?_ (fun _ h => by omega) _)
       exact Qa.refl _ _
      ·refine HS7.out.trans' (S' := fun q => q ≠ wr.heap.size) ?_ fun q hq _ => by omega
       repeat (refine Qa.setCell ?_ (fun _ h => h rfl) _)
       exact Qa.refl _ _
      intro v' w9 Hrel9;go_wp2;go_roundw
      case rel => exact ⟨k + 1, by go_num, Hrel9.out⟩
      case measure => simp [intOf]; omega
    ·have hf : Q7 b yes cs[k] = [c] := by rw [← Hck.out]; unfold Q7 Xb; rw [he]; simp [Qv, hl]
     have Hf := LH hf;have hb : (c.lock.by_.node == b.node) = false := by simpa using h
     clear hf he h;go_wp2_with (at_builtin; refine Qf ?_);unfold Hid;refine Za (c := c) (B := w.heap.size + 1) rfl (.tmp 53) (.tmp 55) rfl rfl rfl (by first | rfl | simp) (by simp [Qj, Qn, Lck.zero, str, hl]) Hrel.out (Xj b _) hlt Hf.out hn (by omega) Hown7.out.wr (fun q h => by omega) ?_ ?_ ?_
     ·repeat (refine Qa.setCell ?_ (fun _ h => by omega) _)
      exact Qa.refl _ _
     ·refine HS7.out.trans' (S' := fun q => q ≠ wr.heap.size) ?_ fun q hq _ => by omega
      repeat (refine Qa.setCell ?_ (fun _ h => h rfl) _)
      exact Qa.refl _ _
     intro v' w9 Hrel9;go_wp2;go_roundw
     case rel => exact ⟨k + 1, by go_num, Hrel9.out⟩
     case measure => simp [intOf]; omega
    ·have hf : Q7 b yes cs[k] = [c] := by rw [← Hck.out]; unfold Q7 Xb; rw [he]; simp [Qv, hl]
     have Hf := LH hf;have hb : (c.lock.by_.life == b.life) = false := by simpa using h
     clear hf he h;rw [h1] at a3;go_wp2_with (at_builtin; refine Qf ?_);unfold Hid;refine Za (c := c) (B := w.heap.size + 1) rfl (.tmp 53) (.tmp 55) rfl rfl rfl (by first | rfl | simp) (by simp [Qj, Qn, Lck.zero, str, hl, h1]) Hrel.out (Xj b _) hlt Hf.out hn (by omega) Hown7.out.wr (fun q h => by omega) ?_ ?_ ?_
     ·repeat (refine Qa.setCell ?_ (fun _ h => by omega) _)
      exact Qa.refl _ _
     ·refine HS7.out.trans' (S' := fun q => q ≠ wr.heap.size) ?_ fun q hq _ => by omega
      repeat (refine Qa.setCell ?_ (fun _ h => h rfl) _)
      exact Qa.refl _ _
     intro v' w9 Hrel9;go_wp2;go_roundw
     case rel => exact ⟨k + 1, by go_num, Hrel9.out⟩
     case measure => simp [intOf]; omega
    ·have hf : Q7 b yes cs[k] = [c] := by rw [← Hck.out]; unfold Q7 Xb; rw [he]; simp [Qv, hl]
     have Hf := LH hf;have hb : (c.lock.by_.seq == b.seq) = false := by simpa using h
     clear hf he h;rw [h1] at a3;rw [h2] at a4;go_wp2_with (at_builtin; refine Qf ?_);unfold Hid;refine Za (c := c) (B := w.heap.size + 1) rfl (.tmp 53) (.tmp 55) rfl rfl rfl (by first | rfl | simp) (by simp [Qj, Qn, Lck.zero, str, hl, h1, h2]) Hrel.out (Xj b _) hlt Hf.out hn (by omega) Hown7.out.wr (fun q h => by omega) ?_ ?_ ?_
     ·repeat (refine Qa.setCell ?_ (fun _ h => by omega) _)
      exact Qa.refl _ _
     ·refine HS7.out.trans' (S' := fun q => q ≠ wr.heap.size) ?_ fun q hq _ => by omega
      repeat (refine Qa.setCell ?_ (fun _ h => h rfl) _)
      exact Qa.refl _ _
     intro v' w9 Hrel9;go_wp2;go_roundw
     case rel => exact ⟨k + 1, by go_num, Hrel9.out⟩
     case measure => simp [intOf]; omega
    ·have hf : Q7 b yes cs[k] = [c] := by rw [← Hck.out]; unfold Q7 Xb; rw [he]; simp [Qv, hl]
     have Hf := LH hf;have hb : (c.lock.by_.attempt == b.attempt) = false := by simpa using h
     clear hf he h;rw [h1] at a3;rw [h2] at a4;rw [h3] at a5;go_wp2_with (at_builtin; refine Qf ?_);unfold Hid;refine Za (c := c) (B := w.heap.size + 1) rfl (.tmp 53) (.tmp 55) rfl rfl rfl (by first | rfl | simp) (by simp [Qj, Qn, Lck.zero, str, hl, h1, h2, h3]) Hrel.out (Xj b _) hlt Hf.out hn (by omega) Hown7.out.wr (fun q h => by omega) ?_ ?_ ?_
     ·repeat (refine Qa.setCell ?_ (fun _ h => by omega) _)
      exact Qa.refl _ _
     ·refine HS7.out.trans' (S' := fun q => q ≠ wr.heap.size) ?_ fun q hq _ => by omega
      repeat (refine Qa.setCell ?_ (fun _ h => h rfl) _)
      exact Qa.refl _ _
     intro v' w9 Hrel9;go_wp2;go_roundw
     case rel => exact ⟨k + 1, by go_num, Hrel9.out⟩
     case measure => simp [intOf]; omega
  ·obtain rfl : k = cs.length := by omega
   have hown := hrel.own;rw [List.take_length] at hown;have Hown := LH hown;clear hS hown hrel;go_wp2;go_ret;exact ⟨_, rfl, Hown.out.lower (by omega), HS.out⟩
end Go.Proofs.Ytoldelocfmpccaa
