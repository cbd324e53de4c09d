/-
  Words, plain models, laws and walks that the claims of this layer share (joined by shake.py). No condition.
-/
import Derived.Test.YtoldelocfmpccaaX1
set_option linter.unusedSimpArgs false
set_option linter.unusedVariables false
namespace Go.Proofs.Ytoldelocfmpccaa
open Go.RowKit
theorem Zo {w wr : World} {g : Nat} {a0 a1 a2 a3 a4 a5 a6 a7 a8 b0 b1 b2 b3 b4 b5 b6 b7 b8 : Value} (hg : w.heap.size ≤ g) (HR : Row wr g 30 [a0, a1, a2, a3, a4, a5, a6, a7, a8]) (HS : Qa (fun _ => True) w wr) :
  Row (((((((((wr.setCell ⟨g, 0, none⟩ b0).setCell ⟨g, 1, none⟩ b1).setCell ⟨g, 2, none⟩ b2).setCell ⟨g, 3, none⟩ b3).setCell ⟨g, 4, none⟩ b4).setCell ⟨g, 5, none⟩ b5).setCell ⟨g, 6, none⟩ b6).setCell ⟨g, 7, none⟩ b7).setCell ⟨g, 8, none⟩ b8) g 30 [b0, b1, b2, b3, b4, b5, b6, b7, b8] ∧ Qa (fun _ => True) w (((((((((wr.setCell ⟨g, 0, none⟩ b0).setCell ⟨g, 1, none⟩ b1).setCell ⟨g, 2, none⟩ b2).setCell ⟨g, 3, none⟩ b3).setCell ⟨g, 4, none⟩ b4).setCell ⟨g, 5, none⟩ b5).setCell ⟨g, 6, none⟩ b6).setCell ⟨g, 7, none⟩ b7).setCell ⟨g, 8, none⟩ b8) :=
 ⟨(((((((((HR.set_ 0 b0).set_ 1 b1).set_ 2 b2).set_ 3 b3).set_ 4 b4).set_ 5 b5).set_ 6 b6).set_ 7 b7).set_ 8 b8), (((((((((HS.setCell (fun h => absurd h (by simp; omega)) _).setCell (fun h => absurd h (by simp; omega)) _).setCell (fun h => absurd h (by simp; omega)) _).setCell (fun h => absurd h (by simp; omega)) _).setCell (fun h => absurd h (by simp; omega)) _).setCell (fun h => absurd h (by simp; omega)) _).setCell (fun h => absurd h (by simp; omega)) _).setCell (fun h => absurd h (by simp; omega)) _).setCell (fun h => absurd h (by simp; omega)) _)⟩
theorem Zz {w : World} {g : Nat} {a0 a1 a2 a3 a4 a5 a6 a7 a8 : Value} (h : Row w g 30 [a0, a1, a2, a3, a4, a5, a6, a7, a8]) : w.cell? ⟨g, 0, none⟩ = some a0 ∧ w.cell? ⟨g, 1, none⟩ = some a1 ∧ w.cell? ⟨g, 2, none⟩ = some a2 ∧ w.cell? ⟨g, 3, none⟩ = some a3 ∧ w.cell? ⟨g, 4, none⟩ = some a4 ∧ w.cell? ⟨g, 5, none⟩ = some a5 ∧ w.cell? ⟨g, 6, none⟩ = some a6 ∧ w.cell? ⟨g, 7, none⟩ = some a7 ∧ w.cell? ⟨g, 8, none⟩ = some a8 ∧ w.frozen? ⟨g, 0, none⟩ = false ∧ w.frozen? ⟨g, 1, none⟩ = false ∧ w.frozen? ⟨g, 2, none⟩ = false ∧ w.frozen? ⟨g, 3, none⟩ = false ∧ w.frozen? ⟨g, 4, none⟩ = false ∧ w.frozen? ⟨g, 5, none⟩ = false ∧ w.frozen? ⟨g, 6, none⟩ = false ∧ w.frozen? ⟨g, 7, none⟩ = false ∧ w.frozen? ⟨g, 8, none⟩ = false :=
 ⟨h.cell 0, h.cell 1, h.cell 2, h.cell 3, h.cell 4, h.cell 5, h.cell 6, h.cell 7, h.cell 8, h.frozen 0, h.frozen 1, h.frozen 2, h.frozen 3, h.frozen 4, h.frozen 5, h.frozen 6, h.frozen 7, h.frozen 8⟩
theorem Jy {W : World} {k : Nat} {l : Lck} {b : Bool} (R : Row W k 30 (Qn l)) {tmps : Array Value}
  (h2 : tmps.getD 4 undef = .pointer (some ⟨k, 0, none⟩)) (h3 : tmps.getD 5 undef = .bool b) :
  (results Try.f30 tmps).run Try.prog W = .ok (.tuple #[Q4 l, .bool b]) W := by
 have d0 : W.cell? ⟨k, 0, none⟩ = some (.int .i64 l.by_.node) := R.cell 0;have d1 : W.cell? ⟨k, 1, none⟩ = some (.int .i64 l.by_.life) := R.cell 1;have d2 : W.cell? ⟨k, 2, none⟩ = some (.int .i64 l.by_.seq) := R.cell 2;have d3 : W.cell? ⟨k, 3, none⟩ = some (.int .i64 l.by_.attempt) := R.cell 3;have d4 : W.cell? ⟨k, 4, none⟩ = some (.int .i64 l.home) := R.cell 4;have d5 : W.cell? ⟨k, 5, none⟩ = some (.int .i64 l.at_.wall) := R.cell 5;have d6 : W.cell? ⟨k, 6, none⟩ = some (.int .i64 l.at_.tie) := R.cell 6;have d7 : W.cell? ⟨k, 7, none⟩ = some (.bool l.drop) := R.cell 7;have d8 : W.cell? ⟨k, 8, none⟩ = some (.string (str l.data)) := R.cell 8;simp at h2 h3;simp [results, Try.results30, h2, h3, go_sem, d0, d1, d2, d3, d4, d5, d6, d7, d8]
theorem ZW {W : World} {k : Nat} {l : Lck} {b : Bool} (R : Row W k 30 (Qn l)) {tmps : Array Value}
  (h2 : tmps.getD 4 undef = .pointer (some ⟨k, 0, none⟩)) (h3 : tmps.getD 5 undef = .bool b) :
  (results Try.f57 tmps).run Try.prog W = .ok (.tuple #[Q4 l, .bool b]) W := by
 have d0 : W.cell? ⟨k, 0, none⟩ = some (.int .i64 l.by_.node) := R.cell 0;have d1 : W.cell? ⟨k, 1, none⟩ = some (.int .i64 l.by_.life) := R.cell 1;have d2 : W.cell? ⟨k, 2, none⟩ = some (.int .i64 l.by_.seq) := R.cell 2;have d3 : W.cell? ⟨k, 3, none⟩ = some (.int .i64 l.by_.attempt) := R.cell 3;have d4 : W.cell? ⟨k, 4, none⟩ = some (.int .i64 l.home) := R.cell 4;have d5 : W.cell? ⟨k, 5, none⟩ = some (.int .i64 l.at_.wall) := R.cell 5;have d6 : W.cell? ⟨k, 6, none⟩ = some (.int .i64 l.at_.tie) := R.cell 6;have d7 : W.cell? ⟨k, 7, none⟩ = some (.bool l.drop) := R.cell 7;have d8 : W.cell? ⟨k, 8, none⟩ = some (.string (str l.data)) := R.cell 8;simp at h2 h3;simp [results, Try.results57, h2, h3, go_sem, d0, d1, d2, d3, d4, d5, d6, d7, d8]
def JD (cs : List Cel) (key : List UInt8) : Lck × Bool := match cs[Xw cs key]? with | some c => if XB cs key && c.locked then (c.lock, true) else (Lck.zero, false) | none => (Lck.zero, false)
def Ws (r : Lck × Bool) (w : World) (e : Ending) (w' : World) : Prop := e = .returned (.tuple #[Q4 r.1, .bool r.2]) ∧ Qa (fun _ => True) w w'
theorem Kr {cs : List Cel} {key : List UInt8} (h : XB cs key = false) : JD cs key = (Lck.zero, false) := by
 unfold JD;cases cs[Xw cs key]? with
 | none => rfl
 | some c => simp [h]
theorem Ui {cs : List Cel} {key : List UInt8} (h : XB cs key = true) (hp : Xw cs key < cs.length) : JD cs key = if cs[Xw cs key].locked then (cs[Xw cs key].lock, true) else (Lck.zero, false) := by
 unfold JD;rw [List.getElem?_eq_getElem hp];simp [h]
set_option maxHeartbeats 1000000 in
theorem VY (v : Value) (cs : List Cel) (key : List UInt8) (S : Nat → Prop) (w : World) (hv : QU w S v cs) (hso : XI cs) (hn : cs.length ≤ 1000000) :
  Calls Try.prog 30 #[v, .string (str key)] w (Ws (JD cs key) w) := by
 obtain ⟨A, cp, rfl, hc, hm⟩ := hv.form;have Hv := LH hv;unfold maxLen at hm;have hrow0 := Row.new w 30 (Qn Lck.zero);have Hrow0 := LH hrow0;cases hf : XB cs key
 ·have g := fun W h => ZF (.slice A cs.length cp) cs key S W h hso hn
  rw [hf] at g;have K := Kr hf;have HK := LH K;clear K hf hv hrow0 hso;go_enter Try.func30, Try.ntmps30;go_wp2_with (go_at_call 68; refine Qf ?_);unfold Hid;refine (g _ (Hv.out.keepAll (SR.alloc _))).mono ?_;rintro e w1 ⟨rfl, hS⟩;skip;have hr1 := Hrow0.out.keep hS tv;have Hr1 := LH hr1;have HS := LH (((Qa.refl (fun _ => True) w).alloc (.cells (Qn Lck.zero).toArray 30)).trans hS);obtain ⟨a0, a1, a2, a3, a4, a5, a6, a7, a8, f0, f1, f2, f3, f4, f5, f6, f7, f8⟩ := Zz hr1;simp only [Lck.zero] at a0 a1 a2 a3 a4 a5 a6 a7 a8;have z1 := hr1.lt;clear hS hr1;go_wp2;obtain ⟨r1, r2⟩ := Zo (b0 := .int .i64 0) (b1 := .int .i64 0) (b2 := .int .i64 0) (b3 := .int .i64 0) (b4 := .int .i64 0) (b5 := .int .i64 0) (b6 := .int .i64 0) (b7 := .bool false) (b8 := .string ⟨#[]⟩) (Nat.le_refl _) Hr1.out HS.out;rw [HK.out];exact bodyPost_ret (Jy (l := Lck.zero) r1 rfl rfl) rfl ⟨rfl, r2⟩
 ·obtain ⟨hp, -⟩ := KC hf;have K := Ui hf hp;have HK := LH K;have g := fun W h => ZF (.slice A cs.length cp) cs key S W h hso hn
  rw [hf] at g;clear K hf hv hrow0 hso;generalize Xw cs key = p at *;go_enter Try.func30, Try.ntmps30;go_wp2_with (go_at_call 68; refine Qf ?_);unfold Hid;refine (g _ (Hv.out.keepAll (SR.alloc _))).mono ?_;rintro e w1 ⟨rfl, hS⟩;skip;have hr1 := Hrow0.out.keep hS tv;have Hr1 := LH hr1;have hS1 := ((Qa.refl (fun _ => True) w).alloc (.cells (Qn Lck.zero).toArray 30)).trans hS;have HS := LH hS1;obtain ⟨a0, a1, a2, a3, a4, a5, a6, a7, a8, f0, f1, f2, f3, f4, f5, f6, f7, f8⟩ := Zz hr1;simp only [Lck.zero] at a0 a1 a2 a3 a4 a5 a6 a7 a8;have z1 := hr1.lt;obtain ⟨ad, u, rfl, -, -, c0, c1, c2, c3, c4, c5, c6, c7, c8, c9, c10, c11⟩ := QU.cells12 (Hv.out.keepAll hS1) hp;have x1 : (0 : Int) ≤ (p : Int) := by omega
  have x2 : (p : Int) < (cs.length : Int) := by omega
  have x3 : ¬ (p : Int) < 0 := by omega
  have x4 : decide ((p : Int) < 0) = false := decide_eq_false x3;generalize cs[p] = c at *;clear hS hS1 hr1 g;cases hl : c.locked
  ·rw [hl] at c2 HK;clear hl;go_wp2;obtain ⟨r1, r2⟩ := Zo (b0 := .int .i64 0) (b1 := .int .i64 0) (b2 := .int .i64 0) (b3 := .int .i64 0) (b4 := .int .i64 0) (b5 := .int .i64 0) (b6 := .int .i64 0) (b7 := .bool false) (b8 := .string ⟨#[]⟩) (Nat.le_refl _) Hr1.out HS.out;rw [HK.out];exact bodyPost_ret (Jy (l := Lck.zero) r1 rfl rfl) rfl ⟨rfl, r2⟩
  ·rw [hl] at c2 HK;clear hl;go_wp2;obtain ⟨r1, r2⟩ := Zo (b0 := .int .i64 c.lock.by_.node) (b1 := .int .i64 c.lock.by_.life) (b2 := .int .i64 c.lock.by_.seq) (b3 := .int .i64 c.lock.by_.attempt) (b4 := .int .i64 c.lock.home) (b5 := .int .i64 c.lock.at_.wall) (b6 := .int .i64 c.lock.at_.tie) (b7 := .bool c.lock.drop) (b8 := .string (str c.lock.data)) (Nat.le_refl _) Hr1.out HS.out;rw [HK.out];exact bodyPost_ret (Jy (l := c.lock) r1 rfl rfl) rfl ⟨rfl, r2⟩
set_option maxHeartbeats 1000000 in
theorem UZ (v : Value) (cs : List Cel) (key : List UInt8) (S : Nat → Prop) (w : World) (hv : QU w S v cs) (hso : XI cs) (hn : cs.length ≤ 1000000) :
  Calls Try.prog 57 #[v, .string (str key)] w (Ws (JD cs key) w) := by
 obtain ⟨A, cp, rfl, hc, hm⟩ := hv.form;have Hv := LH hv;unfold maxLen at hm;have hrow0 := Row.new w 30 (Qn Lck.zero);have Hrow0 := LH hrow0;cases hf : XB cs key
 ·have g := fun W h => (JV (.slice A cs.length cp) cs key S W h hso)
  rw [hf] at g;simp only [Bool.false_eq_true, if_false] at g;have K := Kr hf;have HK := LH K;clear K hf hv hrow0 hso;go_enter Try.func57, Try.ntmps57;go_wp2_with (go_at_call 89; refine Qf ?_);unfold Hid;refine (g _ (Hv.out.keepAll (SR.alloc _))).mono ?_;rintro e w1 ⟨rfl, hw1⟩;have hS : Qa (fun _ => True) (w.alloc (.cells (Qn Lck.zero).toArray 30)) w1 := by rw [← hw1]; exact Qa.refl _ _
  clear hw1;have _u := Qa.refl (fun _ => True) (w.alloc (.cells (Qn Lck.zero).toArray 30));have hr1 := Hrow0.out.keep hS tv;have Hr1 := LH hr1;have HS := LH (((Qa.refl (fun _ => True) w).alloc (.cells (Qn Lck.zero).toArray 30)).trans hS);obtain ⟨a0, a1, a2, a3, a4, a5, a6, a7, a8, f0, f1, f2, f3, f4, f5, f6, f7, f8⟩ := Zz hr1;simp only [Lck.zero] at a0 a1 a2 a3 a4 a5 a6 a7 a8;have z1 := hr1.lt;clear hS hr1;go_wp2;obtain ⟨r1, r2⟩ := Zo (b0 := .int .i64 0) (b1 := .int .i64 0) (b2 := .int .i64 0) (b3 := .int .i64 0) (b4 := .int .i64 0) (b5 := .int .i64 0) (b6 := .int .i64 0) (b7 := .bool false) (b8 := .string ⟨#[]⟩) (Nat.le_refl _) Hr1.out HS.out;rw [HK.out];exact bodyPost_ret (ZW (l := Lck.zero) r1 rfl rfl) rfl ⟨rfl, r2⟩
 ·obtain ⟨hp, -⟩ := KC hf;have K := Ui hf hp;have HK := LH K;have g := fun W h => (JV (.slice A cs.length cp) cs key S W h hso)
  rw [hf] at g;simp only [if_true] at g;clear K hf hv hrow0 hso;generalize Xw cs key = p at *;go_enter Try.func57, Try.ntmps57;go_wp2_with (go_at_call 89; refine Qf ?_);unfold Hid;refine (g _ (Hv.out.keepAll (SR.alloc _))).mono ?_;rintro e w1 ⟨rfl, hw1⟩;have hS : Qa (fun _ => True) (w.alloc (.cells (Qn Lck.zero).toArray 30)) w1 := by rw [← hw1]; exact Qa.refl _ _
  clear hw1;have _u := Qa.refl (fun _ => True) (w.alloc (.cells (Qn Lck.zero).toArray 30));have hr1 := Hrow0.out.keep hS tv;have Hr1 := LH hr1;have hS1 := ((Qa.refl (fun _ => True) w).alloc (.cells (Qn Lck.zero).toArray 30)).trans hS;have HS := LH hS1;obtain ⟨a0, a1, a2, a3, a4, a5, a6, a7, a8, f0, f1, f2, f3, f4, f5, f6, f7, f8⟩ := Zz hr1;simp only [Lck.zero] at a0 a1 a2 a3 a4 a5 a6 a7 a8;have z1 := hr1.lt;obtain ⟨ad, u, rfl, -, -, c0, c1, c2, c3, c4, c5, c6, c7, c8, c9, c10, c11⟩ := QU.cells12 (Hv.out.keepAll hS1) hp;have x1 : (0 : Int) ≤ (p : Int) := by omega
  have x2 : (p : Int) < (cs.length : Int) := by omega
  have x3 : ¬ (p : Int) < 0 := by omega
  have x4 : decide ((p : Int) < 0) = false := decide_eq_false x3;generalize cs[p] = c at *;clear hS hS1 hr1 g;cases hl : c.locked
  ·rw [hl] at c2 HK;clear hl;go_wp2;obtain ⟨r1, r2⟩ := Zo (b0 := .int .i64 0) (b1 := .int .i64 0) (b2 := .int .i64 0) (b3 := .int .i64 0) (b4 := .int .i64 0) (b5 := .int .i64 0) (b6 := .int .i64 0) (b7 := .bool false) (b8 := .string ⟨#[]⟩) (Nat.le_refl _) Hr1.out HS.out;rw [HK.out];exact bodyPost_ret (ZW (l := Lck.zero) r1 rfl rfl) rfl ⟨rfl, r2⟩
  ·rw [hl] at c2 HK;clear hl;go_wp2;obtain ⟨r1, r2⟩ := Zo (b0 := .int .i64 c.lock.by_.node) (b1 := .int .i64 c.lock.by_.life) (b2 := .int .i64 c.lock.by_.seq) (b3 := .int .i64 c.lock.by_.attempt) (b4 := .int .i64 c.lock.home) (b5 := .int .i64 c.lock.at_.wall) (b6 := .int .i64 c.lock.at_.tie) (b7 := .bool c.lock.drop) (b8 := .string (str c.lock.data)) (Nat.le_refl _) Hr1.out HS.out;rw [HK.out];exact bodyPost_ret (ZW (l := c.lock) r1 rfl rfl) rfl ⟨rfl, r2⟩
theorem JH {W : World} {k : Nat} {l : Lck} {b : Bool} (R : Row W k 30 (Qn l)) {tmps : Array Value}
  (h2 : tmps.getD 6 undef = .pointer (some ⟨k, 0, none⟩)) (h3 : tmps.getD 7 undef = .bool b) :
  (results Try.f74 tmps).run Try.prog W = .ok (.tuple #[Q4 l, .bool b]) W := by
 have d0 : W.cell? ⟨k, 0, none⟩ = some (.int .i64 l.by_.node) := R.cell 0;have d1 : W.cell? ⟨k, 1, none⟩ = some (.int .i64 l.by_.life) := R.cell 1;have d2 : W.cell? ⟨k, 2, none⟩ = some (.int .i64 l.by_.seq) := R.cell 2;have d3 : W.cell? ⟨k, 3, none⟩ = some (.int .i64 l.by_.attempt) := R.cell 3;have d4 : W.cell? ⟨k, 4, none⟩ = some (.int .i64 l.home) := R.cell 4;have d5 : W.cell? ⟨k, 5, none⟩ = some (.int .i64 l.at_.wall) := R.cell 5;have d6 : W.cell? ⟨k, 6, none⟩ = some (.int .i64 l.at_.tie) := R.cell 6;have d7 : W.cell? ⟨k, 7, none⟩ = some (.bool l.drop) := R.cell 7;have d8 : W.cell? ⟨k, 8, none⟩ = some (.string (str l.data)) := R.cell 8;simp at h2 h3;simp [results, Try.results74, h2, h3, go_sem, d0, d1, d2, d3, d4, d5, d6, d7, d8]
theorem Jh {W : World} {k : Nat} {l : Lck} {b : Bool} (R : Row W k 30 (Qn l)) {tmps : Array Value}
  (h2 : tmps.getD 6 undef = .pointer (some ⟨k, 0, none⟩)) (h3 : tmps.getD 7 undef = .bool b) :
  (results Try.f53 tmps).run Try.prog W = .ok (.tuple #[Q4 l, .bool b]) W := by
 have d0 : W.cell? ⟨k, 0, none⟩ = some (.int .i64 l.by_.node) := R.cell 0;have d1 : W.cell? ⟨k, 1, none⟩ = some (.int .i64 l.by_.life) := R.cell 1;have d2 : W.cell? ⟨k, 2, none⟩ = some (.int .i64 l.by_.seq) := R.cell 2;have d3 : W.cell? ⟨k, 3, none⟩ = some (.int .i64 l.by_.attempt) := R.cell 3;have d4 : W.cell? ⟨k, 4, none⟩ = some (.int .i64 l.home) := R.cell 4;have d5 : W.cell? ⟨k, 5, none⟩ = some (.int .i64 l.at_.wall) := R.cell 5;have d6 : W.cell? ⟨k, 6, none⟩ = some (.int .i64 l.at_.tie) := R.cell 6;have d7 : W.cell? ⟨k, 7, none⟩ = some (.bool l.drop) := R.cell 7;have d8 : W.cell? ⟨k, 8, none⟩ = some (.string (str l.data)) := R.cell 8;simp at h2 h3;simp [results, Try.results53, h2, h3, go_sem, d0, d1, d2, d3, d4, d5, d6, d7, d8]
set_option maxHeartbeats 400000 in
theorem Uh (key lo hi : List UInt8) (w : World) : Calls Try.prog 87 #[.string (str key), .agg #[.string (str lo), .string (str hi)]] w fun e w' => e = .returned (.bool (inB lo hi key)) ∧ Qa (fun _ => True) w w' := by
 have q1 := ZK key lo;have q2 := ZK key hi;have K : inB lo hi key = (!ltB key lo && ltB key hi) := rfl;cases h1 : ltB key lo <;> cases h2 : ltB key hi
 all_goals
  rw [h1] at q1 K;rw [h2] at q2 K;have HK := LH K;clear K h1 h2;go_enter Try.func87, Try.ntmps87;go_wp2;go_ret;exact ⟨by rw [HK.out]; rfl, SR.alloc _⟩
def ZN (a : St) : List Cel → Lck × Bool
 | [] => (Lck.zero, false)
 | c :: cs => if c.locked && !QG a c.lock.at_ then (c.lock, true) else ZN a cs
def Zr (cs : List Cel) (lo hi : List UInt8) (a : St) : Lck × Bool := ZN a (Xk cs lo hi)
theorem UI {a : St} {cs : List Cel} {k : Nat} (h : k < cs.length) : ZN a (cs.drop k) = if cs[k].locked && !QG a cs[k].lock.at_ then (cs[k].lock, true) else ZN a (cs.drop (k + 1)) := by
 rw [List.drop_eq_getElem_cons h];rfl
def QbB (R : Lck × Bool) (a : St) (L : List Cel) (k p : Nat) (w w2 wr : World) : Prop :=
 k ≤ L.length ∧ ZN a (L.drop k) = R ∧ Row wr (p + 1) 28 (QN a) ∧ Row wr (p + 1 + 1) 30 (Qn Lck.zero) ∧ Qa (fun _ => True) w2 wr ∧ Qa (fun _ => True) w wr
set_option maxHeartbeats 2000000 in
theorem UL (v : Value) (cs : List Cel) (lo hi : List UInt8) (a : St) (S : Nat → Prop) (w : World) (hv : QU w S v cs) (hso : XI cs) (hn : cs.length ≤ 1000000) :
  Calls Try.prog 74 #[v, .agg #[.string (str lo), .string (str hi)], stV a] w (Ws (Zr cs lo hi a) w) := by
 obtain ⟨A, cp, rfl, hc, hm⟩ := hv.form;have Hv := LH hv;unfold maxLen at hm;obtain ⟨L, hL⟩ : ∃ L, Xk cs lo hi = L := ⟨_, rfl⟩;obtain ⟨R, hR⟩ : ∃ R, ZN a L = R := ⟨_, rfl⟩;have K : Zr cs lo hi a = R := by unfold Zr; rw [hL, hR]
 rw [K];have g := fun W h => Ko (.slice A cs.length cp) cs lo hi S W h hso hn
 rw [hL] at g;have HR := LH hR;obtain ⟨W0, hW0⟩ : ∃ W0, W0 = ((w.alloc (.cells #[.string (str lo), .string (str hi)] 53)).alloc (.cells (QN a).toArray 28)).alloc (.cells (Qn Lck.zero).toArray 30) := ⟨_, rfl⟩;have hS0 : Qa (fun _ => True) w W0 := by rw [hW0]; exact ((SR.alloc _).alloc _).alloc _
 have hr1 : Row W0 (w.heap.size + 1) 28 (QN a) := by
  have := (Row.new (w.alloc (.cells #[.string (str lo), .string (str hi)] 53)) 28 (QN a)).keep ((ST).alloc (.cells (Qn Lck.zero).toArray 30)) tv;rw [World.size_alloc] at this;rw [hW0]; exact this
 have hr2 : Row W0 (w.heap.size + 1 + 1) 30 (Qn Lck.zero) := by
  have := Row.new ((w.alloc (.cells #[.string (str lo), .string (str hi)] 53)).alloc (.cells (QN a).toArray 28)) 30 (Qn Lck.zero);rw [World.size_alloc, World.size_alloc] at this;rw [hW0]; exact this
 have HS0 := LH hS0;have Hr1 := LH hr1;have Hr2 := LH hr2;have HW0 := LH hW0;clear K hL hR hv hso hW0 hS0 hr1 hr2;go_enter Try.func74, Try.ntmps74;go_wp2_with (go_at_call 73; refine Qf ?_);unfold Hid;have e0 := HW0.out;simp only [QN, Qn, Lck.zero] at e0;rw [show (str []) = (⟨#[]⟩ : ByteArray) from rfl] at e0;rw [← e0];clear e0;refine (g _ (Hv.out.keepAll HS0.out)).mono ?_;rintro e w2 ⟨⟨v', rfl, hcr⟩, hS2⟩;obtain ⟨A2, cp2, rfl, hc2, hm2⟩ := hcr.form;unfold maxLen at hm2;have Hcr := LH hcr;have HS2 := LH hS2;clear hcr hS2 g;go_wp2;go_loopw [9, 14] (fun _ i wr => ∃ k : Nat, i = .int .i64 k ∧ QbB R a L k w.heap.size w w2 wr) (fun _ i _ => L.length - (intOf i).toNat)
 case atStart => exact ⟨0, rfl, Nat.zero_le _, HR.out, Hr1.out.keep HS2.out tv, Hr2.out.keep HS2.out tv, Qa.refl _ _, HS0.out.trans HS2.out⟩
 case round =>
  obtain ⟨k, rfl, hk, hgo, hr1, hr2, hS3, hS4⟩ := hrel;have Hr1 := LH hr1;have Hr2 := LH hr2;have HS3 := LH hS3;have HS4 := LH hS4;have s0 : wr.cell? ⟨w.heap.size + 1, 0, none⟩ = some (.int .i64 a.wall) := hr1.cell 0;have s1 : wr.cell? ⟨w.heap.size + 1, 1, none⟩ = some (.int .i64 a.tie) := hr1.cell 1;obtain ⟨a0, a1, a2, a3, a4, a5, a6, a7, a8, f0, f1, f2, f3, f4, f5, f6, f7, f8⟩ := Zz hr2;simp only [Lck.zero] at a0 a1 a2 a3 a4 a5 a6 a7 a8;have z1 := hr1.lt;have z2 := hr2.lt;by_cases hlt : k < L.length
  ·obtain ⟨ad, u, rfl, -, hvr, c0, c1, c2, c3, c4, c5, c6, c7, c8, c9, c10, c11⟩ := QU.cells12 (Hcr.out.keepAll hS3) hlt;have x1 : (0 : Int) ≤ (k : Int) := by omega
   have x2 : (k : Int) < (L.length : Int) := by omega
   obtain ⟨Au, cu, rfl, -, -⟩ := hvr.form;have hab := World.block_lt_of_cell? wr _ c0;rw [UI hlt] at hgo;clear hvr;generalize L[k] = c at *;have hrow := Row.new wr 64 (Qj (.slice Au c.vers.length cu, c));have Hrow := LH hrow;clear hr1 hr2 hS3 hS4 hrow;cases hl : c.locked
   ·rw [hl] at c2 hgo;have Hgo := LH hgo;clear hl hgo;go_wp2;go_roundw
    case rel => exact ⟨k + 1, by go_num, by omega, Hgo.out, Hr1.out.keep ((ST).alloc _) tv, Hr2.out.keep ((ST).alloc _) tv, HS3.out.alloc _, HS4.out.alloc _⟩
    case measure => simp [intOf]; omega
   ·have gl := fun W => Z5 a c.lock.at_ W
    cases hb : QG a c.lock.at_
    ·rw [hb] at gl hgo;rw [hl] at c2 hgo;have Hgo := LH hgo;have Hl := LH hl;clear hl hb hgo;go_wp2_with (go_at_call 71; refine Qf ?_);unfold Hid;refine (gl _).mono ?_;rintro e w5 ⟨rfl, hS5⟩
     have hS5' : Qa (fun _ => True) (wr.alloc (.cells (Qj (.slice Au c.vers.length cu, c)).toArray 64)) w5 := by
      simp only [Qj, Qn, Hl.out];exact hS5
     replace hS5 := hS5';clear hS5';have hrow5 := Hrow.out.keep hS5 tv;have y2 : w5.cell? ⟨wr.heap.size, 2, none⟩ = some (.bool c.locked) := hrow5.cell 2;have y3 : w5.cell? ⟨wr.heap.size, 3, none⟩ = some (.int .i64 c.lock.by_.node) := hrow5.cell 3;have y4 : w5.cell? ⟨wr.heap.size, 4, none⟩ = some (.int .i64 c.lock.by_.life) := hrow5.cell 4;have y5 : w5.cell? ⟨wr.heap.size, 5, none⟩ = some (.int .i64 c.lock.by_.seq) := hrow5.cell 5;have y6 : w5.cell? ⟨wr.heap.size, 6, none⟩ = some (.int .i64 c.lock.by_.attempt) := hrow5.cell 6;have y7 : w5.cell? ⟨wr.heap.size, 7, none⟩ = some (.int .i64 c.lock.home) := hrow5.cell 7;have y8 : w5.cell? ⟨wr.heap.size, 8, none⟩ = some (.int .i64 c.lock.at_.wall) := hrow5.cell 8;have y9 : w5.cell? ⟨wr.heap.size, 9, none⟩ = some (.int .i64 c.lock.at_.tie) := hrow5.cell 9;have y10 : w5.cell? ⟨wr.heap.size, 10, none⟩ = some (.bool c.lock.drop) := hrow5.cell 10;have y11 : w5.cell? ⟨wr.heap.size, 11, none⟩ = some (.string (str c.lock.data)) := hrow5.cell 11;have hS6 := ((Qa.refl (fun _ => True) wr).alloc (.cells (Qj (.slice Au c.vers.length cu, c)).toArray 64)).trans hS5;have HS6 := LH (HS4.out.trans hS6);have Hr6 := LH (Hr2.out.keep hS6 tv);clear a0 a1 a2 a3 a4 a5 a6 a7 a8 f0 f1 f2 f3 f4 f5 f6 f7 f8 s0 s1 c0 c1 c2 c3 c4 c5 c6 c7 c8 c9 c10 c11;obtain ⟨a0, a1, a2, a3, a4, a5, a6, a7, a8, f0, f1, f2, f3, f4, f5, f6, f7, f8⟩ := Zz Hr6.out;simp only [Lck.zero] at a0 a1 a2 a3 a4 a5 a6 a7 a8;have z6 := hrow5.lt;clear hrow5 hS5 hS6;go_wp2;obtain ⟨r1, r2⟩ := Zo (b0 := .int .i64 c.lock.by_.node) (b1 := .int .i64 c.lock.by_.life) (b2 := .int .i64 c.lock.by_.seq) (b3 := .int .i64 c.lock.by_.attempt) (b4 := .int .i64 c.lock.home) (b5 := .int .i64 c.lock.at_.wall) (b6 := .int .i64 c.lock.at_.tie) (b7 := .bool c.lock.drop) (b8 := .string (str c.lock.data)) (by omega) Hr6.out HS6.out;rw [← Hgo.out];exact bodyPost_ret (JH (l := c.lock) r1 rfl rfl) rfl ⟨rfl, r2⟩
    ·rw [hb] at gl hgo;rw [hl] at c2 hgo;have Hgo := LH hgo;have Hl := LH hl;clear hl hb hgo;go_wp2_with (go_at_call 71; refine Qf ?_);unfold Hid;refine (gl _).mono ?_;rintro e w5 ⟨rfl, hS5⟩
     have hS5' : Qa (fun _ => True) (wr.alloc (.cells (Qj (.slice Au c.vers.length cu, c)).toArray 64)) w5 := by
      simp only [Qj, Qn, Hl.out];exact hS5
     replace hS5 := hS5';clear hS5';have hS6 := ((Qa.refl (fun _ => True) wr).alloc (.cells (Qj (.slice Au c.vers.length cu, c)).toArray 64)).trans hS5;have HS6 := LH hS6;clear a0 a1 a2 a3 a4 a5 a6 a7 a8 f0 f1 f2 f3 f4 f5 f6 f7 f8 s0 s1 c0 c1 c2 c3 c4 c5 c6 c7 c8 c9 c10 c11 hS5 hS6;go_wp2;go_roundw
     case rel => exact ⟨k + 1, by go_num, by omega, Hgo.out, Hr1.out.keep HS6.out tv, Hr2.out.keep HS6.out tv, HS3.out.trans HS6.out, HS4.out.trans HS6.out⟩
     case measure => simp [intOf]; omega
  ·obtain rfl : k = L.length := by omega
   rw [List.drop_eq_nil_of_le (Nat.le_refl _)] at hgo;have hgo' : R = (Lck.zero, false) := hgo.symm;have Hgo := LH hgo';clear hgo hgo' hr1 hr2 hS3 hS4;go_wp2;obtain ⟨r1, r2⟩ := Zo (b0 := .int .i64 0) (b1 := .int .i64 0) (b2 := .int .i64 0) (b3 := .int .i64 0) (b4 := .int .i64 0) (b5 := .int .i64 0) (b6 := .int .i64 0) (b7 := .bool false) (b8 := .string ⟨#[]⟩) (by omega) Hr2.out HS4.out;rw [Hgo.out];exact bodyPost_ret (JH (l := Lck.zero) r1 rfl rfl) rfl ⟨rfl, r2⟩
end Go.Proofs.Ytoldelocfmpccaa
namespace Go.Proofs.Ytoldelocfmpccaa
def Qk (a : Act) : List Oper → List Value → Act
 | o :: l, v :: vs => Qk (a.put o.dst v) l vs
 | _, _ => a
theorem KL (a : Act) (d : Option Nat) (v : Value) : (a.put d v).tmps.size = a.tmps.size := by
 cases d with
 | none => rfl
 | some d => simp [Act.put]
theorem KG (a : Act) (d : Option Nat) (v : Value) : (a.put d v).defers = a.defers := by cases d <;> rfl
theorem Jb : ∀ (l : List Oper) (vs : List Value) (a : Act), (Qk a l vs).tmps.size = a.tmps.size
 | [], _, _ => rfl
 | _ :: _, [], _ => rfl
 | o :: l, v :: vs, a => by
  show (Qk (a.put o.dst v) l vs).tmps.size = _;rw [Jb l vs, KL]
theorem ZJ : ∀ (l : List Oper) (vs : List Value) (a : Act), (Qk a l vs).defers = a.defers
 | [], _, _ => rfl
 | _ :: _, [], _ => rfl
 | o :: l, v :: vs, a => by
  show (Qk (a.put o.dst v) l vs).defers = _;rw [ZJ l vs, KG]
theorem WT (a : Act) {e : Option Nat} {d : Nat} (v : Value) (h : e ≠ some d) : (a.put e v).tmps.getD d undef = a.tmps.getD d undef := by
 cases e with
 | none => rfl
 | some e =>
  have hne : e ≠ d := fun x => h (by rw [x])
  simp only [Act.put, Array.getD_eq_getD_getElem?, Array.getElem?_setIfInBounds];rw [if_neg hne]
theorem ZC {d : Nat} : ∀ (l : List Oper) (vs : List Value) (a : Act), (∀ o ∈ l, o.dst ≠ some d) → (Qk a l vs).tmps.getD d undef = a.tmps.getD d undef
 | [], _, _, _ => rfl
 | _ :: _, [], _, _ => rfl
 | o :: l, v :: vs, a, h => by
  show (Qk (a.put o.dst v) l vs).tmps.getD d undef = _;rw [ZC l vs _ (fun o' ho => h o' (by simp [ho])), WT _ _ (h o (by simp))]
theorem J3 {d : Nat} : ∀ (l : List Oper) (vs : List Value) (a : Act) (j : Nat) (hj : j < l.length) (hv : j < vs.length), l[j].dst = some d → (∀ (k : Nat) (hk : k < l.length), j < k → l[k].dst ≠ some d) → d < a.tmps.size →
  (Qk a l vs).tmps.getD d undef = vs[j]
 | [], _, _, j, hj, _, _, _, _ => by simp at hj
 | _ :: _, [], _, j, _, hv, _, _, _ => by simp at hv
 | o :: l, v :: vs, a, 0, _, _, hd, ho, hs => by
  show (Qk (a.put o.dst v) l vs).tmps.getD d undef = _
  rw [ZC l vs _ (fun o' ho' => by
   obtain ⟨k, hk, rfl⟩ := List.mem_iff_getElem.1 ho'
   exact ho (k + 1) (by simpa using hk) (by omega))]
  have hd' : o.dst = some d := hd;rw [hd', Z8 a d d v hs];simp
 | o :: l, v :: vs, a, j + 1, hj, hv, hd, ho, hs => by
  show (Qk (a.put o.dst v) l vs).tmps.getD d undef = _;have := J3 l vs (a.put o.dst v) j (by simpa using hj) (by simpa using hv) (by simpa using hd) (fun k hk hjk => by have := ho (k + 1) (by simpa using hk) (by omega); simpa using this) (by rw [KL]; exact hs);simpa using this
theorem UG {a b : Act} (h1 : a.defers = b.defers) (h2 : a.tmps.size = b.tmps.size) (h3 : ∀ d, d < a.tmps.size → a.tmps.getD d undef = b.tmps.getD d undef) : a = b := by
 have ht : a.tmps = b.tmps := by
  apply Array.ext h2;intro i hi hi';have := h3 i hi;simpa [Array.getD_eq_getD_getElem?, hi, hi'] using this
 cases a; cases b;simp at h1 ht;rw [h1, ht]
theorem Qi {P : Program} {l : List Oper} {vs : List Value} {a0 : Act} {w0 : World} {Q : Exit → Act → World → Prop} {id : Nat} (hm : P.follows .mixedOrders = true) (hp : YZ l.toArray = true) (hv : vs.length = l.length)
  (hsz : (l.all fun o => (o.dst.map fun d => decide (d < a0.tmps.size)).getD true) = true)
  (hstep : JC P l.toArray (phi (vs.map SP.eq)) a0 w0 Q 0 l)
  (hend : ∀ w, Qa (fun _ => True) w0 w → Q .normal (Qk a0 l vs) w) : (Code.region id l.toArray true).wp P Q a0 w0 := by
 refine Yt (L := vs.map SP.eq) hm hp hsz hstep (fun a w hs hd hz hf hw => ?_)
 have e : a = Qk a0 l vs := by
  refine UG (by rw [hd, ZJ]) (by rw [hz, Jb]) (fun d hdl => ?_);by_cases h : ∃ (j : Nat) (hj : j < l.length), l[j].dst = some d
  ·obtain ⟨j, hj, hjd⟩ := h;have hs1 : Q9 l.toArray j = d := Zs (o := l[j]) (by simp [hj]) hjd;have h1 := hw j hj;rw [hs1] at h1
   have h2 : a.tmps.getD d undef = vs[j]'(by omega) := by
    have hjv : j < vs.length := by omega
    simpa [phi, hjv, SP.eq, List.getD] using h1
   rw [h2, J3 l vs a0 j hj (by omega) hjd (fun k hk hjk hkd => ?_) (by rw [← hz]; exact hdl)];have hs2 : Q9 l.toArray k = d := Zs (o := l[k]) (by simp [hk]) hkd;exact (Jn hp (i := k) (o := l[k]) (by simp [hk])).2.2 j hjk (by rw [hs1, hs2])
  ·rw [ZC l vs a0 (fun o ho hod => h (by
    obtain ⟨j, hj, rfl⟩ := List.mem_iff_getElem.1 ho
    exact ⟨j, hj, hod⟩))]
   exact hf d (List.all_eq_true.2 fun o ho => by
    have : o.dst ≠ some d := fun hod => h (by
     obtain ⟨j, hj, rfl⟩ := List.mem_iff_getElem.1 ho
     exact ⟨j, hj, hod⟩)
    simpa using this)
 rw [e];exact hend w hs
end Go.Proofs.Ytoldelocfmpccaa
namespace Go.Proofs.Ytoldelocfmpccaa
open Go.RowKit
theorem UM {cs : List Cel} {lo hi : List UInt8} {k : Nat} (h : k < cs.length) : Xk (cs.drop k) lo hi = (if inB lo hi cs[k].key then [cs[k]] else []) ++ Xk (cs.drop (k + 1)) lo hi := by
 unfold Xk;rw [List.drop_eq_getElem_cons h, List.filter_cons];split <;> rfl
def Yw (R : Lck × Bool) (a : St) (cs : List Cel) (lo hi : List UInt8) (k p : Nat) (w wr : World) : Prop :=
 k ≤ cs.length ∧ ZN a (Xk (cs.drop k) lo hi) = R ∧ Row wr p 53 [.string (str lo), .string (str hi)] ∧ Row wr (p + 1) 28 (QN a) ∧ Row wr (p + 1 + 1) 30 (Qn Lck.zero) ∧ Qa (fun _ => True) w wr
theorem Yw.keep {R : Lck × Bool} {a : St} {cs : List Cel} {lo hi : List UInt8} {k k' p : Nat} {w wr wr' : World} (h : Yw R a cs lo hi k p w wr) (hs : Qa (fun _ => True) wr wr') (hk : k' ≤ cs.length) (hb : ZN a (Xk (cs.drop k') lo hi) = R) : Yw R a cs lo hi k' p w wr' :=
 ⟨hk, hb, h.2.2.1.keep hs tv, h.2.2.2.1.keep hs tv, h.2.2.2.2.1.keep hs tv, h.2.2.2.2.2.trans hs⟩
set_option maxRecDepth 100000 in
set_option maxHeartbeats 2000000 in
theorem KS (v : Value) (cs : List Cel) (lo hi : List UInt8) (a : St) (S : Nat → Prop) (w : World) (hv : QU w S v cs) :
  Calls Try.prog 53 #[v, .agg #[.string (str lo), .string (str hi)], stV a] w (Ws (Zr cs lo hi a) w) := by
 obtain ⟨A, cp, rfl, hc, hm⟩ := hv.form;have Hv := LH hv;unfold maxLen at hm;obtain ⟨R, hR⟩ : ∃ R, ZN a (Xk cs lo hi) = R := ⟨_, rfl⟩;have K : Zr cs lo hi a = R := by unfold Zr; rw [hR]
 rw [K];have hst : ∃ W0, W0 = ((w.alloc (.cells #[.string (str lo), .string (str hi)] 53)).alloc (.cells (QN a).toArray 28)).alloc (.cells (Qn Lck.zero).toArray 30) := ⟨_, rfl⟩;obtain ⟨W0, hW0⟩ := hst
 have hrel0 : Yw R a cs lo hi 0 w.heap.size w W0 := by
  have hr0 := ((Row.new w 53 [.string (str lo), .string (str hi)]).keep ((ST).alloc (.cells (QN a).toArray 28)) tv).keep ((ST).alloc (.cells (Qn Lck.zero).toArray 30)) tv;have hr1 := (Row.new (w.alloc (.cells #[.string (str lo), .string (str hi)] 53)) 28 (QN a)).keep ((ST).alloc (.cells (Qn Lck.zero).toArray 30)) tv;have hr2 := Row.new ((w.alloc (.cells #[.string (str lo), .string (str hi)] 53)).alloc (.cells (QN a).toArray 28)) 30 (Qn Lck.zero);rw [World.size_alloc] at hr1;rw [World.size_alloc, World.size_alloc] at hr2;rw [hW0];exact ⟨Nat.zero_le _, by rw [List.drop_zero]; exact hR, hr0, hr1, hr2, ((SR.alloc _).alloc _).alloc _⟩
 have Hrel0 := LH hrel0;have HW0 := LH hW0;clear K hR hv hW0 hrel0;go_enter Try.func53, Try.ntmps53;go_wp2;have e0 := HW0.out;simp only [QN, Qn, Lck.zero] at e0;rw [show (str []) = (⟨#[]⟩ : ByteArray) from rfl] at e0;rw [← e0];clear e0;go_loopw [8] (fun i wr => ∃ k : Nat, i = .int .i64 k ∧ Yw R a cs lo hi k w.heap.size w wr) (fun i _ => cs.length - (intOf i).toNat)
 case atStart => exact ⟨0, rfl, Hrel0.out⟩
 case round =>
  obtain ⟨k, rfl, hrel⟩ := hrel;have Hrel := LH hrel;obtain ⟨hk, hgo, hr0, hr1, hr2, hS⟩ := hrel;have HS := LH hS;have Hr2 := LH hr2;have t0 : wr.cell? ⟨w.heap.size, 0, none⟩ = some (.string (str lo)) := hr0.cell 0;have t1 : wr.cell? ⟨w.heap.size, 1, none⟩ = some (.string (str hi)) := hr0.cell 1;have s0 : wr.cell? ⟨w.heap.size + 1, 0, none⟩ = some (.int .i64 a.wall) := hr1.cell 0;have s1 : wr.cell? ⟨w.heap.size + 1, 1, none⟩ = some (.int .i64 a.tie) := hr1.cell 1;have z2 := hr2.lt;by_cases hlt : k < cs.length
  ·obtain ⟨ad, u, rfl, -, -, c0, c1, c2, c3, c4, c5, c6, c7, c8, c9, c10, c11⟩ := QU.cells12 (Hv.out.keepAll hS) hlt;have x1 : (0 : Int) ≤ (k : Int) := by omega
   have x2 : (k : Int) < (cs.length : Int) := by omega
   have hcell := fun W (h : Qa (fun _ => True) wr W) => QU.cells12 (Hv.out.keepAll (hS.trans h)) hlt
   rw [UM hlt] at hgo;have gi := fun W => Uh cs[k].key lo hi W
   have gl := fun W => X8 a cs[k].lock.at_ W
   clear hcell;generalize cs[k] = c at *;clear hr0 hr1 hr2 hS;cases hi' : inB lo hi c.key
   ·rw [hi'] at gi hgo;simp only [Bool.false_eq_true, if_false, List.nil_append] at hgo;have Hgo := LH hgo;clear hi' hgo;go_wp2;refine Qi (vs := [(.slice (some ad) cs.length cp), (.int .i64 k), (.pointer (some (ad.add (k * 12)))), (.pointer (some (ad.add (k * 12)))), (.string (str c.key)), (.agg #[.string (str lo), .string (str hi)]), (.bool false), (.bool false), undef, undef, undef, undef, undef, (.bool false), (.bool false), undef, undef, undef, undef, undef, undef, undef, undef, undef, (.bool false)]) (by kernel_rfl) (by kernel_rfl) rfl rfl ?_ ?_
    ·refine ⟨?_, ?_, ?_, ?_, ?_, ?_, ?_, ?_, ?_, ?_, ?_, ?_, ?_, ?_, ?_, ?_, ?_, ?_, ?_, ?_, ?_, ?_, ?_, ?_, ?_, tv⟩
     all_goals intro ac wc hs hd hz hf hw K hK
     ·have e0 := EV 0 (.slice (some ad) cs.length cp) (hf 0 rfl);clear hd hz hf hw;simp only [if_true, RL, e0];go_simp;exact hK _ _ rfl SR
     ·have e0 := EV 8 (.int .i64 k) (hf 8 rfl);clear hd hz hf hw;simp only [if_true, RL, e0];go_simp;exact hK _ _ rfl SR
     ·have e0 := EV 15 (.slice (some ad) cs.length cp) (hw 0 rfl);have e1 := EV 16 (.int .i64 k) (hw 1 rfl);clear hd hz hf hw;simp only [if_true, RL, e0, e1];go_simp;exact hK _ _ rfl SR
     ·have e0 := EV 17 (.pointer (some (ad.add (k * 12)))) (hw 2 rfl);clear hd hz hf hw;simp only [if_true, RL, e0];go_simp;exact hK _ _ rfl SR
     ·have e0 := EV 18 (.pointer (some (ad.add (k * 12)))) (hw 3 rfl);have m0 := MC c0 hs tv;clear hd hz hf hw;simp only [if_true, RL, e0];go_simp;exact hK _ _ rfl SR
     ·have e0 := EP 4 w.heap.size 0 (hf 4 rfl);have m0 := MC t0 hs tv;have m1 := MC t1 hs tv;clear hd hz hf hw;simp only [if_true, RL, e0];go_simp;exact hK _ _ rfl SR
     ·have e0 := EV 19 (.string (str c.key)) (hw 4 rfl);have e1 := EV 20 (.agg #[.string (str lo), .string (str hi)]) (hw 5 rfl);clear hd hz hf hw;simp only [if_true, RL, e0, e1];go_simp;refine (gi _).mono ?_;rintro e wd ⟨rfl, hs2⟩;exact hK _ _ rfl hs2
     ·have e0 := EV 21 (.bool false) (hw 6 rfl);clear hd hz hf hw;simp only [if_true, RL, e0];go_simp;exact hK _ _ rfl SR
     ·refine SW 7 22 false hz (hw 7 rfl) ?_;exact hK _ _ rfl SR
     ·refine SW 7 22 false hz (hw 7 rfl) ?_;exact hK _ _ rfl SR
     ·refine SW 7 22 false hz (hw 7 rfl) ?_;exact hK _ _ rfl SR
     ·refine SW 7 22 false hz (hw 7 rfl) ?_;exact hK _ _ rfl SR
     ·refine SW 7 22 false hz (hw 7 rfl) ?_;exact hK _ _ rfl SR
     ·have e0 := EV 22 (.bool false) (hw 7 rfl);have e1 := EV 27 undef (hw 12 rfl);clear hd hz hf hw;simp only [if_true, RL, e0, e1];go_simp;exact hK _ _ rfl SR
     ·have e0 := EV 28 (.bool false) (hw 13 rfl);clear hd hz hf hw;simp only [if_true, RL, e0];go_simp;exact hK _ _ rfl SR
     ·refine SW 14 29 false hz (hw 14 rfl) ?_;exact hK _ _ rfl SR
     ·refine SW 14 29 false hz (hw 14 rfl) ?_;exact hK _ _ rfl SR
     ·refine SW 14 29 false hz (hw 14 rfl) ?_;exact hK _ _ rfl SR
     ·refine SW 14 29 false hz (hw 14 rfl) ?_;exact hK _ _ rfl SR
     ·refine SW 14 29 false hz (hw 14 rfl) ?_;exact hK _ _ rfl SR
     ·refine SW 14 29 false hz (hw 14 rfl) ?_;exact hK _ _ rfl SR
     ·refine SW 14 29 false hz (hw 14 rfl) ?_;exact hK _ _ rfl SR
     ·refine SW 14 29 false hz (hw 14 rfl) ?_;exact hK _ _ rfl SR
     ·refine SW 14 29 false hz (hw 14 rfl) ?_;exact hK _ _ rfl SR
     ·have e0 := EV 29 (.bool false) (hw 14 rfl);have e1 := EV 38 undef (hw 23 rfl);clear hd hz hf hw;simp only [if_true, RL, e0, e1];go_simp;exact hK _ _ rfl SR
    ·intro wR hsR;simp only [Qk, Act.put, LP];go_wp2;go_roundw
     case rel => exact ⟨k + 1, by go_num, Hrel.out.keep hsR (by omega) Hgo.out⟩
     case measure => simp [intOf]; omega
   ·rw [hi'] at gi hgo;simp only [if_true, List.singleton_append] at hgo;unfold ZN at hgo;cases hl : c.locked
    ·rw [hl] at c2 hgo;simp only [Bool.false_and, Bool.false_eq_true, if_false] at hgo;have Hgo := LH hgo;clear hi' hl hgo;go_wp2;refine Qi (vs := [(.slice (some ad) cs.length cp), (.int .i64 k), (.pointer (some (ad.add (k * 12)))), (.pointer (some (ad.add (k * 12)))), (.string (str c.key)), (.agg #[.string (str lo), .string (str hi)]), (.bool true), (.bool true), (.slice (some ad) cs.length cp), (.int .i64 k), (.pointer (some (ad.add (k * 12)))), (.pointer (some ⟨(ad.add (k * 12)).block, (ad.add (k * 12)).off + 2, none⟩)), (.bool false), (.bool false), (.bool false), undef, undef, undef, undef, undef, undef, undef, undef, undef, (.bool false)]) (by kernel_rfl) (by kernel_rfl) rfl rfl ?_ ?_
     ·refine ⟨?_, ?_, ?_, ?_, ?_, ?_, ?_, ?_, ?_, ?_, ?_, ?_, ?_, ?_, ?_, ?_, ?_, ?_, ?_, ?_, ?_, ?_, ?_, ?_, ?_, tv⟩
      all_goals intro ac wc hs hd hz hf hw K hK
      ·have e0 := EV 0 (.slice (some ad) cs.length cp) (hf 0 rfl);clear hd hz hf hw;simp only [if_true, RL, e0];go_simp;exact hK _ _ rfl SR
      ·have e0 := EV 8 (.int .i64 k) (hf 8 rfl);clear hd hz hf hw;simp only [if_true, RL, e0];go_simp;exact hK _ _ rfl SR
      ·have e0 := EV 15 (.slice (some ad) cs.length cp) (hw 0 rfl);have e1 := EV 16 (.int .i64 k) (hw 1 rfl);clear hd hz hf hw;simp only [if_true, RL, e0, e1];go_simp;exact hK _ _ rfl SR
      ·have e0 := EV 17 (.pointer (some (ad.add (k * 12)))) (hw 2 rfl);clear hd hz hf hw;simp only [if_true, RL, e0];go_simp;exact hK _ _ rfl SR
      ·have e0 := EV 18 (.pointer (some (ad.add (k * 12)))) (hw 3 rfl);have m0 := MC c0 hs tv;clear hd hz hf hw;simp only [if_true, RL, e0];go_simp;exact hK _ _ rfl SR
      ·have e0 := EP 4 w.heap.size 0 (hf 4 rfl);have m0 := MC t0 hs tv;have m1 := MC t1 hs tv;clear hd hz hf hw;simp only [if_true, RL, e0];go_simp;exact hK _ _ rfl SR
      ·have e0 := EV 19 (.string (str c.key)) (hw 4 rfl);have e1 := EV 20 (.agg #[.string (str lo), .string (str hi)]) (hw 5 rfl);clear hd hz hf hw;simp only [if_true, RL, e0, e1];go_simp;refine (gi _).mono ?_;rintro e wd ⟨rfl, hs2⟩;exact hK _ _ rfl hs2
      ·have e0 := EV 21 (.bool true) (hw 6 rfl);clear hd hz hf hw;simp only [if_true, RL, e0];go_simp;exact hK _ _ rfl SR
      ·refine RW 7 22 true hz (hw 7 rfl) ?_;have e0 := EV 0 (.slice (some ad) cs.length cp) (hf 0 rfl);clear hd hz hf hw;simp only [RL, e0];go_simp;exact hK _ _ rfl SR
      ·refine RW 7 22 true hz (hw 7 rfl) ?_;have e0 := EV 8 (.int .i64 k) (hf 8 rfl);clear hd hz hf hw;simp only [RL, e0];go_simp;exact hK _ _ rfl SR
      ·refine RW 7 22 true hz (hw 7 rfl) ?_;have e0 := EV 23 (.slice (some ad) cs.length cp) (hw 8 rfl);have e1 := EV 24 (.int .i64 k) (hw 9 rfl);clear hd hz hf hw;simp only [RL, e0, e1];go_simp;exact hK _ _ rfl SR
      ·refine RW 7 22 true hz (hw 7 rfl) ?_;have e0 := EV 25 (.pointer (some (ad.add (k * 12)))) (hw 10 rfl);clear hd hz hf hw;simp only [RL, e0];go_simp;exact hK _ _ rfl SR
      ·refine RW 7 22 true hz (hw 7 rfl) ?_;have e0 : ac.eval (.tmp 26) = (.pointer (some ⟨(ad.add (k * 12)).block, (ad.add (k * 12)).off + 2, none⟩)) := hw 11 rfl;have m0 := MC c2 hs tv;clear hd hz hf hw;simp only [RL, e0];go_simp;exact hK _ _ rfl SR
      ·have e0 := EV 22 (.bool true) (hw 7 rfl);have e1 := EV 27 (.bool false) (hw 12 rfl);clear hd hz hf hw;simp only [if_true, RL, e0, e1];go_simp;exact hK _ _ rfl SR
      ·have e0 := EV 28 (.bool false) (hw 13 rfl);clear hd hz hf hw;simp only [if_true, RL, e0];go_simp;exact hK _ _ rfl SR
      ·refine SW 14 29 false hz (hw 14 rfl) ?_;exact hK _ _ rfl SR
      ·refine SW 14 29 false hz (hw 14 rfl) ?_;exact hK _ _ rfl SR
      ·refine SW 14 29 false hz (hw 14 rfl) ?_;exact hK _ _ rfl SR
      ·refine SW 14 29 false hz (hw 14 rfl) ?_;exact hK _ _ rfl SR
      ·refine SW 14 29 false hz (hw 14 rfl) ?_;exact hK _ _ rfl SR
      ·refine SW 14 29 false hz (hw 14 rfl) ?_;exact hK _ _ rfl SR
      ·refine SW 14 29 false hz (hw 14 rfl) ?_;exact hK _ _ rfl SR
      ·refine SW 14 29 false hz (hw 14 rfl) ?_;exact hK _ _ rfl SR
      ·refine SW 14 29 false hz (hw 14 rfl) ?_;exact hK _ _ rfl SR
      ·have e0 := EV 29 (.bool false) (hw 14 rfl);have e1 := EV 38 undef (hw 23 rfl);clear hd hz hf hw;simp only [if_true, RL, e0, e1];go_simp;exact hK _ _ rfl SR
     ·intro wR hsR;simp only [Qk, Act.put, LP];go_wp2;go_roundw
      case rel => exact ⟨k + 1, by go_num, Hrel.out.keep hsR (by omega) Hgo.out⟩
      case measure => simp [intOf]; omega
    ·rw [hl] at c2 hgo;cases hb : QG a c.lock.at_
     ·rw [hb] at gl hgo;have Hgo := LH hgo;clear hi' hl hgo hb;go_wp2;refine Qi (vs := [(.slice (some ad) cs.length cp), (.int .i64 k), (.pointer (some (ad.add (k * 12)))), (.pointer (some (ad.add (k * 12)))), (.string (str c.key)), (.agg #[.string (str lo), .string (str hi)]), (.bool true), (.bool true), (.slice (some ad) cs.length cp), (.int .i64 k), (.pointer (some (ad.add (k * 12)))), (.pointer (some ⟨(ad.add (k * 12)).block, (ad.add (k * 12)).off + 2, none⟩)), (.bool true), (.bool true), (.bool true), (stV a), (.slice (some ad) cs.length cp), (.int .i64 k), (.pointer (some (ad.add (k * 12)))), (.pointer (some ⟨(ad.add (k * 12)).block, (ad.add (k * 12)).off + 3, none⟩)), (.pointer (some ⟨(ad.add (k * 12)).block, (ad.add (k * 12)).off + 8, none⟩)), (stV c.lock.at_), (.bool false), (.bool true), (.bool true)]) (by kernel_rfl) (by kernel_rfl) rfl rfl ?_ ?_
      ·refine ⟨?_, ?_, ?_, ?_, ?_, ?_, ?_, ?_, ?_, ?_, ?_, ?_, ?_, ?_, ?_, ?_, ?_, ?_, ?_, ?_, ?_, ?_, ?_, ?_, ?_, tv⟩
       all_goals intro ac wc hs hd hz hf hw K hK
       ·have e0 := EV 0 (.slice (some ad) cs.length cp) (hf 0 rfl);clear hd hz hf hw;simp only [if_true, RL, e0];go_simp;exact hK _ _ rfl SR
       ·have e0 := EV 8 (.int .i64 k) (hf 8 rfl);clear hd hz hf hw;simp only [if_true, RL, e0];go_simp;exact hK _ _ rfl SR
       ·have e0 := EV 15 (.slice (some ad) cs.length cp) (hw 0 rfl);have e1 := EV 16 (.int .i64 k) (hw 1 rfl);clear hd hz hf hw;simp only [if_true, RL, e0, e1];go_simp;exact hK _ _ rfl SR
       ·have e0 := EV 17 (.pointer (some (ad.add (k * 12)))) (hw 2 rfl);clear hd hz hf hw;simp only [if_true, RL, e0];go_simp;exact hK _ _ rfl SR
       ·have e0 := EV 18 (.pointer (some (ad.add (k * 12)))) (hw 3 rfl);have m0 := MC c0 hs tv;clear hd hz hf hw;simp only [if_true, RL, e0];go_simp;exact hK _ _ rfl SR
       ·have e0 := EP 4 w.heap.size 0 (hf 4 rfl);have m0 := MC t0 hs tv;have m1 := MC t1 hs tv;clear hd hz hf hw;simp only [if_true, RL, e0];go_simp;exact hK _ _ rfl SR
       ·have e0 := EV 19 (.string (str c.key)) (hw 4 rfl);have e1 := EV 20 (.agg #[.string (str lo), .string (str hi)]) (hw 5 rfl);clear hd hz hf hw;simp only [if_true, RL, e0, e1];go_simp;refine (gi _).mono ?_;rintro e wd ⟨rfl, hs2⟩;exact hK _ _ rfl hs2
       ·have e0 := EV 21 (.bool true) (hw 6 rfl);clear hd hz hf hw;simp only [if_true, RL, e0];go_simp;exact hK _ _ rfl SR
       ·refine RW 7 22 true hz (hw 7 rfl) ?_;have e0 := EV 0 (.slice (some ad) cs.length cp) (hf 0 rfl);clear hd hz hf hw;simp only [RL, e0];go_simp;exact hK _ _ rfl SR
       ·refine RW 7 22 true hz (hw 7 rfl) ?_;have e0 := EV 8 (.int .i64 k) (hf 8 rfl);clear hd hz hf hw;simp only [RL, e0];go_simp;exact hK _ _ rfl SR
       ·refine RW 7 22 true hz (hw 7 rfl) ?_;have e0 := EV 23 (.slice (some ad) cs.length cp) (hw 8 rfl);have e1 := EV 24 (.int .i64 k) (hw 9 rfl);clear hd hz hf hw;simp only [RL, e0, e1];go_simp;exact hK _ _ rfl SR
       ·refine RW 7 22 true hz (hw 7 rfl) ?_;have e0 := EV 25 (.pointer (some (ad.add (k * 12)))) (hw 10 rfl);clear hd hz hf hw;simp only [RL, e0];go_simp;exact hK _ _ rfl SR
       ·refine RW 7 22 true hz (hw 7 rfl) ?_;have e0 : ac.eval (.tmp 26) = (.pointer (some ⟨(ad.add (k * 12)).block, (ad.add (k * 12)).off + 2, none⟩)) := hw 11 rfl;have m0 := MC c2 hs tv;clear hd hz hf hw;simp only [RL, e0];go_simp;exact hK _ _ rfl SR
       ·have e0 := EV 22 (.bool true) (hw 7 rfl);have e1 := EV 27 (.bool true) (hw 12 rfl);clear hd hz hf hw;simp only [if_true, RL, e0, e1];go_simp;exact hK _ _ rfl SR
       ·have e0 := EV 28 (.bool true) (hw 13 rfl);clear hd hz hf hw;simp only [if_true, RL, e0];go_simp;exact hK _ _ rfl SR
       ·refine RW 14 29 true hz (hw 14 rfl) ?_;have e0 := EP 5 (w.heap.size + 1) 0 (hf 5 rfl);have m0 := MC s0 hs tv;have m1 := MC s1 hs tv;clear hd hz hf hw;simp only [RL, e0];go_simp;exact hK _ _ rfl SR
       ·refine RW 14 29 true hz (hw 14 rfl) ?_;have e0 := EV 0 (.slice (some ad) cs.length cp) (hf 0 rfl);clear hd hz hf hw;simp only [RL, e0];go_simp;exact hK _ _ rfl SR
       ·refine RW 14 29 true hz (hw 14 rfl) ?_;have e0 := EV 8 (.int .i64 k) (hf 8 rfl);clear hd hz hf hw;simp only [RL, e0];go_simp;exact hK _ _ rfl SR
       ·refine RW 14 29 true hz (hw 14 rfl) ?_;have e0 := EV 31 (.slice (some ad) cs.length cp) (hw 16 rfl);have e1 := EV 32 (.int .i64 k) (hw 17 rfl);clear hd hz hf hw;simp only [RL, e0, e1];go_simp;exact hK _ _ rfl SR
       ·refine RW 14 29 true hz (hw 14 rfl) ?_;have e0 := EV 33 (.pointer (some (ad.add (k * 12)))) (hw 18 rfl);clear hd hz hf hw;simp only [RL, e0];go_simp;exact hK _ _ rfl SR
       ·refine RW 14 29 true hz (hw 14 rfl) ?_;have e0 : ac.eval (.tmp 34) = (.pointer (some ⟨(ad.add (k * 12)).block, (ad.add (k * 12)).off + 3, none⟩)) := hw 19 rfl;clear hd hz hf hw;simp only [RL, e0];go_simp;exact hK _ _ rfl SR
       ·refine RW 14 29 true hz (hw 14 rfl) ?_;have e0 : ac.eval (.tmp 35) = (.pointer (some ⟨(ad.add (k * 12)).block, (ad.add (k * 12)).off + 8, none⟩)) := hw 20 rfl;have m0 := MC c8 hs tv;have m1 := MC c9 hs tv;clear hd hz hf hw;simp only [RL, e0];go_simp;exact hK _ _ rfl SR
       ·refine RW 14 29 true hz (hw 14 rfl) ?_;have e0 := EV 30 (stV a) (hw 15 rfl);have e1 := EV 36 (stV c.lock.at_) (hw 21 rfl);clear hd hz hf hw;simp only [RL, e0, e1];go_simp;refine (gl _).mono ?_;rintro e wd ⟨rfl, hs2⟩;exact hK _ _ rfl hs2
       ·refine RW 14 29 true hz (hw 14 rfl) ?_;have e0 := EV 37 (.bool false) (hw 22 rfl);clear hd hz hf hw;simp only [RL, e0];go_simp;exact hK _ _ rfl SR
       ·have e0 := EV 29 (.bool true) (hw 14 rfl);have e1 := EV 38 (.bool true) (hw 23 rfl);clear hd hz hf hw;simp only [if_true, RL, e0, e1];go_simp;exact hK _ _ rfl SR
      ·intro wR hsR;simp only [Qk, Act.put, LP];have hr3 := LH (Hr2.out.keep hsR tv);have hs3 := LH (HS.out.trans hsR);obtain ⟨a0, a1, a2, a3, a4, a5, a6, a7, a8, f0, f1, f2, f3, f4, f5, f6, f7, f8⟩ := Zz hr3.out;simp only [Lck.zero] at a0 a1 a2 a3 a4 a5 a6 a7 a8;have z6 := hr3.out.lt;have y3 := hsR.cell (p := ⟨(ad.add (k * 12)).block, (ad.add (k * 12)).off + 3, none⟩) tv c3;have y4 := hsR.cell (p := ⟨(ad.add (k * 12)).block, (ad.add (k * 12)).off + 4, none⟩) tv c4;have y5 := hsR.cell (p := ⟨(ad.add (k * 12)).block, (ad.add (k * 12)).off + 5, none⟩) tv c5;have y6 := hsR.cell (p := ⟨(ad.add (k * 12)).block, (ad.add (k * 12)).off + 6, none⟩) tv c6;have y7 := hsR.cell (p := ⟨(ad.add (k * 12)).block, (ad.add (k * 12)).off + 7, none⟩) tv c7;have y8 := hsR.cell (p := ⟨(ad.add (k * 12)).block, (ad.add (k * 12)).off + 8, none⟩) tv c8;have y9 := hsR.cell (p := ⟨(ad.add (k * 12)).block, (ad.add (k * 12)).off + 9, none⟩) tv c9;have y10 := hsR.cell (p := ⟨(ad.add (k * 12)).block, (ad.add (k * 12)).off + 10, none⟩) tv c10;have y11 := hsR.cell (p := ⟨(ad.add (k * 12)).block, (ad.add (k * 12)).off + 11, none⟩) tv c11;clear hsR;go_wp2;obtain ⟨r1, r2⟩ := Zo (b0 := .int .i64 c.lock.by_.node) (b1 := .int .i64 c.lock.by_.life) (b2 := .int .i64 c.lock.by_.seq) (b3 := .int .i64 c.lock.by_.attempt) (b4 := .int .i64 c.lock.home) (b5 := .int .i64 c.lock.at_.wall) (b6 := .int .i64 c.lock.at_.tie) (b7 := .bool c.lock.drop) (b8 := .string (str c.lock.data)) (by omega) hr3.out hs3.out;rw [← Hgo.out];exact bodyPost_ret (Jh (l := c.lock) r1 rfl rfl) rfl ⟨rfl, r2⟩
     ·rw [hb] at gl hgo;have Hgo := LH hgo;clear hi' hl hgo hb;go_wp2;refine Qi (vs := [(.slice (some ad) cs.length cp), (.int .i64 k), (.pointer (some (ad.add (k * 12)))), (.pointer (some (ad.add (k * 12)))), (.string (str c.key)), (.agg #[.string (str lo), .string (str hi)]), (.bool true), (.bool true), (.slice (some ad) cs.length cp), (.int .i64 k), (.pointer (some (ad.add (k * 12)))), (.pointer (some ⟨(ad.add (k * 12)).block, (ad.add (k * 12)).off + 2, none⟩)), (.bool true), (.bool true), (.bool true), (stV a), (.slice (some ad) cs.length cp), (.int .i64 k), (.pointer (some (ad.add (k * 12)))), (.pointer (some ⟨(ad.add (k * 12)).block, (ad.add (k * 12)).off + 3, none⟩)), (.pointer (some ⟨(ad.add (k * 12)).block, (ad.add (k * 12)).off + 8, none⟩)), (stV c.lock.at_), (.bool true), (.bool false), (.bool false)]) (by kernel_rfl) (by kernel_rfl) rfl rfl ?_ ?_
      ·refine ⟨?_, ?_, ?_, ?_, ?_, ?_, ?_, ?_, ?_, ?_, ?_, ?_, ?_, ?_, ?_, ?_, ?_, ?_, ?_, ?_, ?_, ?_, ?_, ?_, ?_, tv⟩
       all_goals intro ac wc hs hd hz hf hw K hK
       ·have e0 := EV 0 (.slice (some ad) cs.length cp) (hf 0 rfl);clear hd hz hf hw;simp only [if_true, RL, e0];go_simp;exact hK _ _ rfl SR
       ·have e0 := EV 8 (.int .i64 k) (hf 8 rfl);clear hd hz hf hw;simp only [if_true, RL, e0];go_simp;exact hK _ _ rfl SR
       ·have e0 := EV 15 (.slice (some ad) cs.length cp) (hw 0 rfl);have e1 := EV 16 (.int .i64 k) (hw 1 rfl);clear hd hz hf hw;simp only [if_true, RL, e0, e1];go_simp;exact hK _ _ rfl SR
       ·have e0 := EV 17 (.pointer (some (ad.add (k * 12)))) (hw 2 rfl);clear hd hz hf hw;simp only [if_true, RL, e0];go_simp;exact hK _ _ rfl SR
       ·have e0 := EV 18 (.pointer (some (ad.add (k * 12)))) (hw 3 rfl);have m0 := MC c0 hs tv;clear hd hz hf hw;simp only [if_true, RL, e0];go_simp;exact hK _ _ rfl SR
       ·have e0 := EP 4 w.heap.size 0 (hf 4 rfl);have m0 := MC t0 hs tv;have m1 := MC t1 hs tv;clear hd hz hf hw;simp only [if_true, RL, e0];go_simp;exact hK _ _ rfl SR
       ·have e0 := EV 19 (.string (str c.key)) (hw 4 rfl);have e1 := EV 20 (.agg #[.string (str lo), .string (str hi)]) (hw 5 rfl);clear hd hz hf hw;simp only [if_true, RL, e0, e1];go_simp;refine (gi _).mono ?_;rintro e wd ⟨rfl, hs2⟩;exact hK _ _ rfl hs2
       ·have e0 := EV 21 (.bool true) (hw 6 rfl);clear hd hz hf hw;simp only [if_true, RL, e0];go_simp;exact hK _ _ rfl SR
       ·refine RW 7 22 true hz (hw 7 rfl) ?_;have e0 := EV 0 (.slice (some ad) cs.length cp) (hf 0 rfl);clear hd hz hf hw;simp only [RL, e0];go_simp;exact hK _ _ rfl SR
       ·refine RW 7 22 true hz (hw 7 rfl) ?_;have e0 := EV 8 (.int .i64 k) (hf 8 rfl);clear hd hz hf hw;simp only [RL, e0];go_simp;exact hK _ _ rfl SR
       ·refine RW 7 22 true hz (hw 7 rfl) ?_;have e0 := EV 23 (.slice (some ad) cs.length cp) (hw 8 rfl);have e1 := EV 24 (.int .i64 k) (hw 9 rfl);clear hd hz hf hw;simp only [RL, e0, e1];go_simp;exact hK _ _ rfl SR
       ·refine RW 7 22 true hz (hw 7 rfl) ?_;have e0 := EV 25 (.pointer (some (ad.add (k * 12)))) (hw 10 rfl);clear hd hz hf hw;simp only [RL, e0];go_simp;exact hK _ _ rfl SR
       ·refine RW 7 22 true hz (hw 7 rfl) ?_;have e0 : ac.eval (.tmp 26) = (.pointer (some ⟨(ad.add (k * 12)).block, (ad.add (k * 12)).off + 2, none⟩)) := hw 11 rfl;have m0 := MC c2 hs tv;clear hd hz hf hw;simp only [RL, e0];go_simp;exact hK _ _ rfl SR
       ·have e0 := EV 22 (.bool true) (hw 7 rfl);have e1 := EV 27 (.bool true) (hw 12 rfl);clear hd hz hf hw;simp only [if_true, RL, e0, e1];go_simp;exact hK _ _ rfl SR
       ·have e0 := EV 28 (.bool true) (hw 13 rfl);clear hd hz hf hw;simp only [if_true, RL, e0];go_simp;exact hK _ _ rfl SR
       ·refine RW 14 29 true hz (hw 14 rfl) ?_;have e0 := EP 5 (w.heap.size + 1) 0 (hf 5 rfl);have m0 := MC s0 hs tv;have m1 := MC s1 hs tv;clear hd hz hf hw;simp only [RL, e0];go_simp;exact hK _ _ rfl SR
       ·refine RW 14 29 true hz (hw 14 rfl) ?_;have e0 := EV 0 (.slice (some ad) cs.length cp) (hf 0 rfl);clear hd hz hf hw;simp only [RL, e0];go_simp;exact hK _ _ rfl SR
       ·refine RW 14 29 true hz (hw 14 rfl) ?_;have e0 := EV 8 (.int .i64 k) (hf 8 rfl);clear hd hz hf hw;simp only [RL, e0];go_simp;exact hK _ _ rfl SR
       ·refine RW 14 29 true hz (hw 14 rfl) ?_;have e0 := EV 31 (.slice (some ad) cs.length cp) (hw 16 rfl);have e1 := EV 32 (.int .i64 k) (hw 17 rfl);clear hd hz hf hw;simp only [RL, e0, e1];go_simp;exact hK _ _ rfl SR
       ·refine RW 14 29 true hz (hw 14 rfl) ?_;have e0 := EV 33 (.pointer (some (ad.add (k * 12)))) (hw 18 rfl);clear hd hz hf hw;simp only [RL, e0];go_simp;exact hK _ _ rfl SR
       ·refine RW 14 29 true hz (hw 14 rfl) ?_;have e0 : ac.eval (.tmp 34) = (.pointer (some ⟨(ad.add (k * 12)).block, (ad.add (k * 12)).off + 3, none⟩)) := hw 19 rfl;clear hd hz hf hw;simp only [RL, e0];go_simp;exact hK _ _ rfl SR
       ·refine RW 14 29 true hz (hw 14 rfl) ?_;have e0 : ac.eval (.tmp 35) = (.pointer (some ⟨(ad.add (k * 12)).block, (ad.add (k * 12)).off + 8, none⟩)) := hw 20 rfl;have m0 := MC c8 hs tv;have m1 := MC c9 hs tv;clear hd hz hf hw;simp only [RL, e0];go_simp;exact hK _ _ rfl SR
       ·refine RW 14 29 true hz (hw 14 rfl) ?_;have e0 := EV 30 (stV a) (hw 15 rfl);have e1 := EV 36 (stV c.lock.at_) (hw 21 rfl);clear hd hz hf hw;simp only [RL, e0, e1];go_simp;refine (gl _).mono ?_;rintro e wd ⟨rfl, hs2⟩;exact hK _ _ rfl hs2
       ·refine RW 14 29 true hz (hw 14 rfl) ?_;have e0 := EV 37 (.bool true) (hw 22 rfl);clear hd hz hf hw;simp only [RL, e0];go_simp;exact hK _ _ rfl SR
       ·have e0 := EV 29 (.bool true) (hw 14 rfl);have e1 := EV 38 (.bool false) (hw 23 rfl);clear hd hz hf hw;simp only [if_true, RL, e0, e1];go_simp;exact hK _ _ rfl SR
      ·intro wR hsR;simp only [Qk, Act.put, LP];go_wp2;go_roundw
       case rel => exact ⟨k + 1, by go_num, Hrel.out.keep hsR (by omega) Hgo.out⟩
       case measure => simp [intOf]; omega
  ·obtain rfl : k = cs.length := by omega
   rw [List.drop_eq_nil_of_le (Nat.le_refl _)] at hgo;have hgo' : R = (Lck.zero, false) := hgo.symm;have Hgo := LH hgo';clear hgo hgo' hr0 hr1 hS;obtain ⟨a0, a1, a2, a3, a4, a5, a6, a7, a8, f0, f1, f2, f3, f4, f5, f6, f7, f8⟩ := Zz hr2;simp only [Lck.zero] at a0 a1 a2 a3 a4 a5 a6 a7 a8;clear hr2;go_wp2;obtain ⟨r1, r2⟩ := Zo (b0 := .int .i64 0) (b1 := .int .i64 0) (b2 := .int .i64 0) (b3 := .int .i64 0) (b4 := .int .i64 0) (b5 := .int .i64 0) (b6 := .int .i64 0) (b7 := .bool false) (b8 := .string ⟨#[]⟩) (by omega) Hr2.out HS.out;rw [Hgo.out];exact bodyPost_ret (Jh (l := Lck.zero) r1 rfl rfl) rfl ⟨rfl, r2⟩
theorem Qbk {w : World} {B : Nat} {e : TypeId} {size : Nat} {v : Value} {n : Nat} {xs : List Value} (h : w.ownsRow B e size v n xs) : ∃ A c, v = .slice A n c ∧ n ≤ c ∧ c ≤ maxLen := by
 rcases h.2 with ⟨rfl, rfl⟩ | ⟨g, cap, cur, rfl, _, _, h1, h2, _⟩
 ·exact ⟨none, 0, rfl, by omega, by simp [maxLen]⟩
 ·exact ⟨_, _, rfl, h1, h2⟩
theorem QbC {w : World} {B : Nat} {e : TypeId} {size : Nat} {v : Value} {n : Nat} {xs : List Value} (h : w.ownsRow B e size v n xs) {k : Nat} (hk : some k = v.ownBlock) : B ≤ k := (h.lt k hk.symm).1
theorem J2 {w : World} {B B' : Nat} {e : TypeId} {size : Nat} {v : Value} {n : Nat} {xs : List Value} (h : w.ownsRow B e size v n xs) (hb : B' ≤ B) : w.ownsRow B' e size v n xs :=
 ⟨h.1, h.2.imp id fun ⟨g, c, cu, h1, h2, h3⟩ => ⟨g, c, cu, h1, Nat.le_trans hb h2, h3⟩⟩
def Qg {α : Type} (f : α → List Value) (n : Nat) (e : TypeId) (w : World) (B : Nat) (v : Value) (l : List α) : Prop := w.ownsRow B e n v l.length (l.flatMap f)
section
variable {α : Type} {f : α → List Value} {n : Nat} {e : TypeId} {w w' : World} {B : Nat} {v : Value} {l : List α}
theorem Qg.nil (w : World) (B : Nat) : Qg f n e w B (.slice none 0 0) [] := World.ownsRow_nil _ _ _ _
theorem Qg.keepAll (h : Qg f n e w B v l) (hs : Qa (fun _ => True) w w') : Qg f n e w' B v l := VC h hs
theorem Qg.keep {S : Nat → Prop} (h : Qg f n e w B v l) (hs : Qa S w w') (hS : ∀ k, B ≤ k → k < w.heap.size → S k) : Qg f n e w' B v l :=
 JW h (hs.mono (S' := fun k => S k) fun _ _ h => h) fun k hk => hS k (QbC h hk.symm) (h.lt k hk).2
theorem Qg.form (h : Qg f n e w B v l) : ∃ A c, v = .slice A l.length c ∧ l.length ≤ c ∧ c ≤ maxLen := Qbk h
theorem Qg.lt_ (h : Qg f n e w B v l) {k : Nat} (hk : v.ownBlock = some k) : B ≤ k ∧ k < w.heap.size := h.lt k hk
theorem QT {P : Program} {t : TypeId} {bytes : Nat} {z : Value} (T : SlT P t e n bytes z) (hf : ∀ x, (f x).length = n) (h1 : ∀ x, ∀ u ∈ f x, u.oneCell' = true) {w : World} {ops : Array Oper} {rest : List Oper} {o : Oper} {a : Act} {Q : Exit → Act → World → Prop} (hgd : o.guard = none) (s x : Operand)
  (ho : o.op = .call { callee := .builtin .append, args := #[s, x], argTypes := #[t, t] }) {B : Nat} {v : Value} {l : List α} {c : α}
  (hs : a.eval s = v) {g : Nat} (hx : a.eval x = .slice (some ⟨g, 0, none⟩) 1 1) (hg : g = w.heap.size) (hown : Qg f n e w B v l) (hB : B ≤ w.heap.size) (hlen : l.length + 1 ≤ maxLen) (hbytes : (l.length + 1) * bytes ≤ 140737488355328)
  (hK : ∀ v' w', Qg f n e w' B v' (l ++ [c]) → Qa (fun k => k < B) w w' → wpList P ops Q rest (a.put o.dst v') w') : wpList P ops Q (o :: rest) a (w.alloc (.cells (f c).toArray e)) := by
 subst hg;have hs1 : Qa (fun _ => True) w (w.alloc (.cells (f c).toArray e)) := SR.alloc _;have hrow := Row.new w e (f c);have hsl := hrow.sl (size := n) (off := 0) (n := 1) (by rw [hf]; omega);rw [List.drop_zero, List.take_of_length_le (by rw [hf]; omega)] at hsl;refine Zu T _ hgd s x ho B v l.length (l.flatMap f) hs (hown.keepAll hs1) _ _ 1 1 (f c) hx hsl (h1 c) hlen hbytes (by simp; omega) ?_;intro v' w' h2 h3 h4;refine hK v' w' ?_ ((hs1.mono fun _ _ _ => tv).trans (h3.mono fun k _ hk e' => by have := (hown.keepAll hs1).lt_ e'.symm; omega));unfold Qg;rw [List.length_append, List.flatMap_append];simpa using h2
end
def JS (p : List UInt8 × List UInt8) : List Value := [.string (str p.1), .string (str p.2)]
theorem Jp (p : List UInt8 × List UInt8) : ∀ u ∈ JS p, u.oneCell' = true := by
 intro u hu;simp only [JS, List.mem_cons, List.not_mem_nil, or_false] at hu;rcases hu with rfl | rfl <;> rfl
theorem TP : SlT Try.prog 55 60 2 32 (.agg #[.string ⟨#[]⟩, .string ⟨#[]⟩]) := ⟨by kernel_rfl, by kernel_rfl, rfl, by omega⟩
abbrev Xp (w : World) (B : Nat) (v : Value) (l : List (List UInt8 × List UInt8)) : Prop := Qg JS 2 60 w B v l
def Yv (a : St) (c : Cel) : List (List UInt8 × List UInt8) := if (ZY c.vers a).2 then [(c.key, (ZY c.vers a).1)] else []
def Xh (a : St) (l : List Cel) : List (List UInt8 × List UInt8) := l.flatMap (Yv a)
def ZP (cs : List Cel) (lo hi : List UInt8) (a : St) (most : Int) : List (List UInt8 × List UInt8) × Int :=
 if max most 0 < ((Xh a (Xk cs lo hi)).length : Int) then ([], 3) else (Xh a (Xk cs lo hi), 0)
def Qax (r : List (List UInt8 × List UInt8) × Int) (w : World) (e : Ending) (w' : World) : Prop :=
 ∃ v, e = .returned (.tuple #[v, .int .i64 r.2]) ∧ Xp w' w.heap.size v r.1 ∧ Qa (fun _ => True) w w'
theorem VR {a : St} {l : List Cel} {k : Nat} (h : k < l.length) : Xh a (l.take (k + 1)) = Xh a (l.take k) ++ Yv a l[k] := by
 unfold Xh;rw [List.take_succ_eq_append_getElem h, List.flatMap_append];simp
theorem QaK (a : St) (l : List Cel) (k : Nat) : (Xh a (l.take k)).length ≤ (Xh a l).length := by
 have : Xh a l = Xh a (l.take k) ++ Xh a (l.drop k) := by
  unfold Xh;rw [← List.flatMap_append, List.take_append_drop]
 rw [this, List.length_append];omega
theorem YU (a : St) : ∀ l : List Cel, (Xh a l).length ≤ l.length
 | [] => by simp [Xh]
 | c :: l => by
  have := YU a l;have e : Xh a (c :: l) = Yv a c ++ Xh a l := by simp [Xh]
  rw [e, List.length_append, List.length_cons];unfold Yv;split <;> simp <;> omega
def Qa5 (a : St) (L : List Cel) (most : Int) (k q : Nat) (l : Value) (w w2 wr : World) : Prop :=
 k ≤ L.length ∧ ((Xh a (L.take k)).length : Int) ≤ max most 0 ∧ Xp wr w2.heap.size l (Xh a (L.take k)) ∧ Row wr q 28 (QN a) ∧ Qa (fun _ => True) w2 wr ∧ Qa (fun _ => True) w wr
set_option maxHeartbeats 2000000 in
theorem VK (v : Value) (cs : List Cel) (lo hi : List UInt8) (a : St) (most : Int) (S : Nat → Prop) (w : World) (hv : QU w S v cs) (hS : ∀ k, S k → k < w.heap.size) (hso : XI cs) (hn : cs.length ≤ 1000000) :
  Calls Try.prog 33 #[v, .agg #[.string (str lo), .string (str hi)], stV a, .int .i64 most] w (Qax (ZP cs lo hi a most) w) := by
 obtain ⟨A, cp, rfl, hc, hm⟩ := hv.form;have Hv := LH hv;unfold maxLen at hm;obtain ⟨L, hL⟩ : ∃ L, Xk cs lo hi = L := ⟨_, rfl⟩
 have hLn : L.length ≤ 1000000 := by
  have : (Xk cs lo hi).length ≤ cs.length := List.length_filter_le _ _;rw [hL] at this;omega
 have K : ZP cs lo hi a most = if max most 0 < ((Xh a L).length : Int) then ([], 3) else (Xh a L, 0) := by unfold ZP; rw [hL]
 have HK := LH K;have g := fun W h => Ko (.slice A cs.length cp) cs lo hi S W h hso hn
 rw [hL] at g;obtain ⟨W0, hW0⟩ : ∃ W0, W0 = (w.alloc (.cells #[.string (str lo), .string (str hi)] 53)).alloc (.cells (QN a).toArray 28) := ⟨_, rfl⟩;have hS0 : Qa (fun _ => True) w W0 := by rw [hW0]; exact (SR.alloc _).alloc _
 have hr1 : Row W0 (w.heap.size + 1) 28 (QN a) := by
  have := Row.new (w.alloc (.cells #[.string (str lo), .string (str hi)] 53)) 28 (QN a);rw [World.size_alloc] at this;rw [hW0]; exact this
 have HS0 := LH hS0;have Hr1 := LH hr1;have HW0 := LH hW0;clear K hL hv hso hW0 hS0 hr1;go_enter Try.func33, Try.ntmps33;go_wp2_with (go_at_call 73; refine Qf ?_);unfold Hid;have e0 := HW0.out;simp only [QN] at e0;rw [← e0];clear e0;refine (g _ (Hv.out.keepAll HS0.out)).mono ?_;rintro e w2 ⟨⟨v', rfl, hcr⟩, hS2⟩;obtain ⟨A2, cp2, rfl, hc2, hm2⟩ := hcr.form;unfold maxLen at hm2;have Hcr := LH hcr
 have hq2 : w.heap.size + 1 < w2.heap.size := by
  have := Hr1.out.lt;have := hS2.size;omega
 have Hq2 := LH hq2;have HS2 := LH hS2;clear hq2;clear hcr hS2 g;go_wp2;go_loopw [10, 12, 13, 14, 19] (fun l _ _ _ i wr => ∃ k : Nat, i = .int .i64 k ∧ Qa5 a L most k (w.heap.size + 1) l w w2 wr) (fun _ _ _ _ i _ => L.length - (intOf i).toNat)
 case atStart => exact ⟨0, rfl, Nat.zero_le _, by simp [Xh]; omega, by rw [List.take_zero]; exact Qg.nil _ _, Hr1.out.keep HS2.out tv, Qa.refl _ _, HS0.out.trans HS2.out⟩
 case round =>
  obtain ⟨k, rfl, hk, hle, hown, hr1, hS3, hS4⟩ := hrel;have Hr1 := LH hr1;have HS3 := LH hS3;have HS4 := LH hS4;have Hown := LH hown;obtain ⟨Al, cl, rfl, hl1, hl2⟩ := hown.form;unfold maxLen at hl2;have s0 : wr.cell? ⟨w.heap.size + 1, 0, none⟩ = some (.int .i64 a.wall) := hr1.cell 0;have s1 : wr.cell? ⟨w.heap.size + 1, 1, none⟩ = some (.int .i64 a.tie) := hr1.cell 1;have z1 := hr1.lt;have hpl := YU a (L.take k);have hpl2 : (L.take k).length ≤ k := List.length_take_le _ _;by_cases hlt : k < L.length
  ·obtain ⟨ad, u, rfl, -, hvr, c0, c1, c2, c3, c4, c5, c6, c7, c8, c9, c10, c11⟩ := QU.cells12 (Hcr.out.keepAll hS3) hlt;obtain ⟨Au, cu, rfl, -, -⟩ := hvr.form;have x1 : (0 : Int) ≤ (k : Int) := by omega
   have x2 : (k : Int) < (L.length : Int) := by omega
   have hab := World.block_lt_of_cell? wr _ c0;have hpt := VR (a := a) hlt;have hple := QaK a L (k + 1);have Hvr := LH hvr;clear hvr;generalize L[k] = c at *;have gt := fun W hv' => Vu (.slice Au c.vers.length cu) c a S W hv'
   have hrow := Row.new wr 64 (Qj (.slice Au c.vers.length cu, c));have Hrow := LH hrow;clear hr1 hS3 hS4 hrow hown;obtain ⟨tb, td, htd⟩ : ∃ tb td, ZY c.vers a = (td, tb) := ⟨_, _, rfl⟩;rw [htd] at gt;have hpf : Yv a c = if tb then [(c.key, td)] else [] := by unfold Yv; rw [htd]
   rw [hpf] at hpt;clear htd hpf;go_wp2_with (go_at_call 70; refine Qf ?_);unfold Hid;refine (gt _ (Qw.keepAll Hvr.out (SR.alloc _))).mono ?_;rintro e w5 ⟨rfl, hS5⟩;have hrow5 := Hrow.out.keep hS5 tv;have y0 : w5.cell? ⟨wr.heap.size, 0, none⟩ = some (.string (str c.key)) := hrow5.cell 0;have hS6 := ((Qa.refl (fun _ => True) wr).alloc (.cells (Qj (.slice Au c.vers.length cu, c)).toArray 64)).trans hS5;have HS6 := LH hS6;clear hS5 hS6 hrow5 gt s0 s1 c0 c1 c2 c3 c4 c5 c6 c7 c8 c9 c10 c11;cases tb
   ·have Hpt := LH hpt;clear hpt y0;go_wp2;go_roundw
    case rel =>
     refine ⟨k + 1, by go_num, by omega, ?_, ?_, Hr1.out.keep HS6.out tv, HS3.out.trans HS6.out, HS4.out.trans HS6.out⟩
     ·rw [Hpt.out]; simpa using hle
     ·rw [Hpt.out];have := Hown.out.keepAll HS6.out;simpa using this
    case measure => simp [intOf]; omega
   ·by_cases hmost : most ≤ ((Xh a (L.take k)).length : Int)
    ·have hbig : max most 0 < ((Xh a L).length : Int) := by
      rw [hpt] at hple;simp at hple;omega
     have Hbig := LH hbig;clear hpt hbig y0;go_wp2;go_ret2;rw [HK.out, if_pos Hbig.out];exact ⟨_, rfl, Qg.nil _ _, HS4.out.trans HS6.out⟩
    ·have Hpt := LH hpt;clear hpt;go_wp2_with (at_builtin; refine Qf ?_);unfold Hid;refine QT TP (fun _ => rfl) Jp (c := (c.key, td)) rfl (.tmp 35) (.tmp 40) rfl rfl rfl rfl (Hown.out.keepAll HS6.out) (by have := HS3.out.size; have := HS6.out.size; omega) (by simp only [maxLen]; omega) (by omega) ?_;intro v' w7 hown7 hS7;have Hown7 := LH hown7;have HS7 := LH hS7;clear hown7 hS7 y0;go_wp2;go_roundw
     case rel =>
      have t1 := HS2.out.size;have t2 := HS0.out.size;have t3 := Hr1.out.lt;have t4 := HS3.out.trans HS6.out;have t5 := t4.trans' HS7.out fun _ h _ => h
      refine ⟨k + 1, by go_num, by omega, ?_, ?_, (Hr1.out.keep HS6.out tv).keep HS7.out Hq2.out, t5, (HS0.out.trans HS2.out).trans t5⟩
      ·rw [Hpt.out]; simp; omega
      ·rw [Hpt.out]; exact Hown7.out
     case measure => simp [intOf]; omega
  ·obtain rfl : k = L.length := by omega
   have x1 : ¬ (L.length : Int) < (L.length : Int) := by omega
   have hk2 : Xh a (L.take L.length) = Xh a L := by rw [List.take_length]
   rw [hk2] at hown hle;go_wp2;go_ret2;rw [HK.out, if_neg (by omega)];exact ⟨_, rfl, J2 hown (by have := Hq2.out; omega), HS4.out⟩
theorem Kb {cs : List Cel} {lo hi : List UInt8} {k : Nat} (h : k < cs.length) : Xk (cs.take (k + 1)) lo hi = Xk (cs.take k) lo hi ++ (if inB lo hi cs[k].key then [cs[k]] else []) := by
 unfold Xk;rw [List.take_succ_eq_append_getElem h, List.filter_append];congr 1;rw [List.filter_cons];split <;> rfl
def JL (a : St) (cs : List Cel) (lo hi : List UInt8) (k : Nat) : List (List UInt8 × List UInt8) := Xh a (Xk (cs.take k) lo hi)
theorem QbK (a : St) (cs : List Cel) (lo hi : List UInt8) (k : Nat) : (JL a cs lo hi k).length ≤ k :=
 Nat.le_trans (YU _ _) (Nat.le_trans (List.length_filter_le _ _) (List.length_take_le _ _))
theorem Qa4 {a : St} {cs : List Cel} {lo hi : List UInt8} {k : Nat} (h : k < cs.length) (hi' : inB lo hi cs[k].key = false) : JL a cs lo hi (k + 1) = JL a cs lo hi k := by
 unfold JL;rw [Kb h, hi'];simp
theorem QbA {a : St} {cs : List Cel} {lo hi : List UInt8} {k : Nat} (h : k < cs.length) (hi' : inB lo hi cs[k].key = true) : JL a cs lo hi (k + 1) = JL a cs lo hi k ++ Yv a cs[k] := by
 unfold JL;rw [Kb h, hi'];unfold Xh;simp
def JM (a : St) (cs : List Cel) (lo hi : List UInt8) (k B : Nat) (l : Value) (w wr : World) : Prop :=
 k ≤ cs.length ∧ Xp wr B l (JL a cs lo hi k) ∧ w.heap.size + 2 ≤ B ∧ B ≤ wr.heap.size ∧ Row wr w.heap.size 53 [.string (str lo), .string (str hi)] ∧ Row wr (w.heap.size + 1) 28 (QN a) ∧ Qa (fun _ => True) w wr
theorem JM.keep {a : St} {cs : List Cel} {lo hi : List UInt8} {k k' B : Nat} {l : Value} {w wr wr' : World} (h : JM a cs lo hi k B l w wr) (hs : Qa (fun _ => True) wr wr') (hk : k' ≤ cs.length) (hg : JL a cs lo hi k' = JL a cs lo hi k) : JM a cs lo hi k' B l w wr' :=
 ⟨hk, by rw [hg]; exact h.2.1.keepAll hs, h.2.2.1, Nat.le_trans h.2.2.2.1 hs.size, h.2.2.2.2.1.keep hs tv, h.2.2.2.2.2.1.keep hs tv, h.2.2.2.2.2.2.trans hs⟩
set_option maxRecDepth 100000 in
set_option maxHeartbeats 2000000 in
theorem U4 (v : Value) (cs : List Cel) (lo hi : List UInt8) (a : St) (most : Int) (S : Nat → Prop) (w : World) (hv : QU w S v cs) (hn : cs.length ≤ 1000000) :
  Calls Try.prog 54 #[v, .agg #[.string (str lo), .string (str hi)], stV a, .int .i64 most] w (Qax (ZP cs lo hi a most) w) := by
 obtain ⟨A, cp, rfl, hc, hm⟩ := hv.form;have Hv := LH hv;unfold maxLen at hm;have K : ZP cs lo hi a most = if max most 0 < ((JL a cs lo hi cs.length).length : Int) then ([], 3) else (JL a cs lo hi cs.length, 0) := by unfold ZP JL; rw [List.take_length]
 have HK := LH K;obtain ⟨W0, hW0⟩ : ∃ W0, W0 = (w.alloc (.cells #[.string (str lo), .string (str hi)] 53)).alloc (.cells (QN a).toArray 28) := ⟨_, rfl⟩
 have hrel0 : JM a cs lo hi 0 (w.heap.size + 2) (.slice none 0 0) w W0 := by
  have hr0 := (Row.new w 53 [.string (str lo), .string (str hi)]).keep ((ST).alloc (.cells (QN a).toArray 28)) tv;have hr1 := Row.new (w.alloc (.cells #[.string (str lo), .string (str hi)] 53)) 28 (QN a);rw [World.size_alloc] at hr1;rw [hW0];exact ⟨Nat.zero_le _, by unfold JL; simp [Xh, Xk]; exact Qg.nil _ _, Nat.le_refl _, by rw [World.size_alloc, World.size_alloc]; omega, hr0, hr1, (SR.alloc _).alloc _⟩
 have Hrel0 := LH hrel0;have HW0 := LH hW0;clear K hv hW0 hrel0;go_enter Try.func54, Try.ntmps54;go_wp2;have e0 := HW0.out;simp only [QN] at e0;rw [← e0];clear e0;go_loopw [10, 11, 12, 13] (fun l i _ _ wr => ∃ k : Nat, i = .int .i64 k ∧ JM a cs lo hi k (w.heap.size + 2) l w wr) (fun _ i _ _ _ => cs.length - (intOf i).toNat)
 case atStart => exact ⟨0, rfl, Hrel0.out⟩
 case round =>
  obtain ⟨k, rfl, hrel⟩ := hrel;have Hrel := LH hrel;obtain ⟨hk, hown, hB1, hB2, hr0, hr1, hS⟩ := hrel;have HS := LH hS;have Hown := LH hown;have Hr0 := LH hr0;have Hr1 := LH hr1;obtain ⟨Al, cl, rfl, hl1, hl2⟩ := hown.form;unfold maxLen at hl2;have t0 : wr.cell? ⟨w.heap.size, 0, none⟩ = some (.string (str lo)) := hr0.cell 0;have t1 : wr.cell? ⟨w.heap.size, 1, none⟩ = some (.string (str hi)) := hr0.cell 1;have hgl := QbK a cs lo hi k;by_cases hlt : k < cs.length
  ·obtain ⟨ad, u, rfl, -, hvr, c0, c1, c2, c3, c4, c5, c6, c7, c8, c9, c10, c11⟩ := QU.cells12 (Hv.out.keepAll hS) hlt;obtain ⟨Au, cu, rfl, -, -⟩ := hvr.form;have x1 : (0 : Int) ≤ (k : Int) := by omega
   have x2 : (k : Int) < (cs.length : Int) := by omega
   have go := @Qa4 a cs lo hi k hlt;have gn := @QbA a cs lo hi k hlt;have Hvr := LH hvr;clear hvr;generalize cs[k] = c at *;have gt := fun W hv' => WP (.slice Au c.vers.length cu) c a S W hv'
   have gi := fun W => Uh c.key lo hi W
   clear hr0 hr1 hS hown;cases hi' : inB lo hi c.key
   ·rw [hi'] at gi;have Hgo := LH (go hi');clear hi' go gn gt;go_wp2;refine Qi (vs := [(.slice (some ad) cs.length cp), (.int .i64 k), (.pointer (some (ad.add (k * 12)))), (.pointer (some (ad.add (k * 12)))), (.string (str c.key)), (.agg #[.string (str lo), .string (str hi)]), (.bool false), (.bool true)]) (by kernel_rfl) (by kernel_rfl) rfl rfl ?_ ?_
    ·refine ⟨?_, ?_, ?_, ?_, ?_, ?_, ?_, ?_, tv⟩
     all_goals intro ac wc hs hd hz hf hw K hK
     ·have e0 := EV 0 (.slice (some ad) cs.length cp) (hf 0 rfl);clear hd hz hf hw;simp only [if_true, RL, e0];go_simp;exact hK _ _ rfl SR
     ·have e0 := EV 11 (.int .i64 k) (hf 11 rfl);clear hd hz hf hw;simp only [if_true, RL, e0];go_simp;exact hK _ _ rfl SR
     ·have e0 := EV 20 (.slice (some ad) cs.length cp) (hw 0 rfl);have e1 := EV 21 (.int .i64 k) (hw 1 rfl);clear hd hz hf hw;simp only [if_true, RL, e0, e1];go_simp;exact hK _ _ rfl SR
     ·have e0 := EV 22 (.pointer (some (ad.add (k * 12)))) (hw 2 rfl);clear hd hz hf hw;simp only [if_true, RL, e0];go_simp;exact hK _ _ rfl SR
     ·have e0 := EV 23 (.pointer (some (ad.add (k * 12)))) (hw 3 rfl);have m0 := MC c0 hs tv;clear hd hz hf hw;simp only [if_true, RL, e0];go_simp;exact hK _ _ rfl SR
     ·have e0 := EP 5 w.heap.size 0 (hf 5 rfl);have m0 := MC t0 hs tv;have m1 := MC t1 hs tv;clear hd hz hf hw;simp only [if_true, RL, e0];go_simp;exact hK _ _ rfl SR
     ·have e0 := EV 24 (.string (str c.key)) (hw 4 rfl);have e1 := EV 25 (.agg #[.string (str lo), .string (str hi)]) (hw 5 rfl);clear hd hz hf hw;simp only [if_true, RL, e0, e1];go_simp;refine (gi _).mono ?_;rintro e wd ⟨rfl, hs2⟩;exact hK _ _ rfl hs2
     ·have e0 := EV 26 (.bool false) (hw 6 rfl);clear hd hz hf hw;simp only [if_true, RL, e0];go_simp;exact hK _ _ rfl SR
    ·intro wR hsR;simp only [Qk, Act.put, LP];go_wp2;go_roundw
     case rel => exact ⟨k + 1, by go_num, Hrel.out.keep hsR (by omega) Hgo.out⟩
     case measure => simp [intOf]; omega
   ·rw [hi'] at gi;have hgn := gn hi';clear hi' go gn;obtain ⟨tb, td, htd⟩ : ∃ tb td, ZY c.vers a = (td, tb) := ⟨_, _, rfl⟩;rw [htd] at gt;have hpf : Yv a c = if tb then [(c.key, td)] else [] := by unfold Yv; rw [htd]
    rw [hpf] at hgn;have Hgn := LH hgn;clear htd hpf hgn;go_wp2;refine Qi (vs := [(.slice (some ad) cs.length cp), (.int .i64 k), (.pointer (some (ad.add (k * 12)))), (.pointer (some (ad.add (k * 12)))), (.string (str c.key)), (.agg #[.string (str lo), .string (str hi)]), (.bool true), (.bool false)]) (by kernel_rfl) (by kernel_rfl) rfl rfl ?_ ?_
    ·refine ⟨?_, ?_, ?_, ?_, ?_, ?_, ?_, ?_, tv⟩
     all_goals intro ac wc hs hd hz hf hw K hK
     ·have e0 := EV 0 (.slice (some ad) cs.length cp) (hf 0 rfl);clear hd hz hf hw;simp only [if_true, RL, e0];go_simp;exact hK _ _ rfl SR
     ·have e0 := EV 11 (.int .i64 k) (hf 11 rfl);clear hd hz hf hw;simp only [if_true, RL, e0];go_simp;exact hK _ _ rfl SR
     ·have e0 := EV 20 (.slice (some ad) cs.length cp) (hw 0 rfl);have e1 := EV 21 (.int .i64 k) (hw 1 rfl);clear hd hz hf hw;simp only [if_true, RL, e0, e1];go_simp;exact hK _ _ rfl SR
     ·have e0 := EV 22 (.pointer (some (ad.add (k * 12)))) (hw 2 rfl);clear hd hz hf hw;simp only [if_true, RL, e0];go_simp;exact hK _ _ rfl SR
     ·have e0 := EV 23 (.pointer (some (ad.add (k * 12)))) (hw 3 rfl);have m0 := MC c0 hs tv;clear hd hz hf hw;simp only [if_true, RL, e0];go_simp;exact hK _ _ rfl SR
     ·have e0 := EP 5 w.heap.size 0 (hf 5 rfl);have m0 := MC t0 hs tv;have m1 := MC t1 hs tv;clear hd hz hf hw;simp only [if_true, RL, e0];go_simp;exact hK _ _ rfl SR
     ·have e0 := EV 24 (.string (str c.key)) (hw 4 rfl);have e1 := EV 25 (.agg #[.string (str lo), .string (str hi)]) (hw 5 rfl);clear hd hz hf hw;simp only [if_true, RL, e0, e1];go_simp;refine (gi _).mono ?_;rintro e wd ⟨rfl, hs2⟩;exact hK _ _ rfl hs2
     ·have e0 := EV 26 (.bool true) (hw 6 rfl);clear hd hz hf hw;simp only [if_true, RL, e0];go_simp;exact hK _ _ rfl SR
    ·intro wA hsA;simp only [Qk, Act.put, LP];have y0 := hsA.cell (p := (ad.add (k * 12))) tv c0;have y1 := hsA.cell (p := ⟨(ad.add (k * 12)).block, (ad.add (k * 12)).off + 1, none⟩) tv c1;have y2 := hsA.cell (p := ⟨(ad.add (k * 12)).block, (ad.add (k * 12)).off + 2, none⟩) tv c2;have y3 := hsA.cell (p := ⟨(ad.add (k * 12)).block, (ad.add (k * 12)).off + 3, none⟩) tv c3;have y4 := hsA.cell (p := ⟨(ad.add (k * 12)).block, (ad.add (k * 12)).off + 4, none⟩) tv c4;have y5 := hsA.cell (p := ⟨(ad.add (k * 12)).block, (ad.add (k * 12)).off + 5, none⟩) tv c5;have y6 := hsA.cell (p := ⟨(ad.add (k * 12)).block, (ad.add (k * 12)).off + 6, none⟩) tv c6;have y7 := hsA.cell (p := ⟨(ad.add (k * 12)).block, (ad.add (k * 12)).off + 7, none⟩) tv c7;have y8 := hsA.cell (p := ⟨(ad.add (k * 12)).block, (ad.add (k * 12)).off + 8, none⟩) tv c8;have y9 := hsA.cell (p := ⟨(ad.add (k * 12)).block, (ad.add (k * 12)).off + 9, none⟩) tv c9;have y10 := hsA.cell (p := ⟨(ad.add (k * 12)).block, (ad.add (k * 12)).off + 10, none⟩) tv c10;have y11 := hsA.cell (p := ⟨(ad.add (k * 12)).block, (ad.add (k * 12)).off + 11, none⟩) tv c11;have s0 : wA.cell? ⟨w.heap.size + 1, 0, none⟩ = some (.int .i64 a.wall) := (Hr1.out.keep hsA tv).cell 0;have s1 : wA.cell? ⟨w.heap.size + 1, 1, none⟩ = some (.int .i64 a.tie) := (Hr1.out.keep hsA tv).cell 1;clear c0 c1 c2 c3 c4 c5 c6 c7 c8 c9 c10 c11 t0 t1;go_wp2;refine Qi (vs := [(.slice (some ad) cs.length cp), (.int .i64 k), (.pointer (some (ad.add (k * 12)))), (KO (.slice Au c.vers.length cu) c), (stV a), (.tuple #[.string (str td), .bool tb]), (.tuple #[.string (str td), .bool tb]), (.string (str td)), (.bool tb), (.string (str td)), (.bool tb)]) (by kernel_rfl) (by kernel_rfl) rfl rfl ?_ ?_
     ·refine ⟨?_, ?_, ?_, ?_, ?_, ?_, ?_, ?_, ?_, ?_, ?_, tv⟩
      all_goals intro ac wc hs hd hz hf hw K hK
      ·have e0 := EV 0 (.slice (some ad) cs.length cp) (hf 0 rfl);clear hd hz hf hw;simp only [if_true, RL, e0];go_simp;exact hK _ _ rfl SR
      ·have e0 := EV 11 (.int .i64 k) (hf 11 rfl);clear hd hz hf hw;simp only [if_true, RL, e0];go_simp;exact hK _ _ rfl SR
      ·have e0 := EV 29 (.slice (some ad) cs.length cp) (hw 0 rfl);have e1 := EV 30 (.int .i64 k) (hw 1 rfl);clear hd hz hf hw;simp only [if_true, RL, e0, e1];go_simp;exact hK _ _ rfl SR
      ·have e0 := EV 31 (.pointer (some (ad.add (k * 12)))) (hw 2 rfl);have m0 := MC y0 hs tv;have m1 := MC y1 hs tv;have m2 := MC y2 hs tv;have m3 := MC y3 hs tv;have m4 := MC y4 hs tv;have m5 := MC y5 hs tv;have m6 := MC y6 hs tv;have m7 := MC y7 hs tv;have m8 := MC y8 hs tv;have m9 := MC y9 hs tv;have m10 := MC y10 hs tv;have m11 := MC y11 hs tv;clear hd hz hf hw;simp only [if_true, RL, e0];go_simp;exact hK _ _ rfl SR
      ·have e0 := EP 6 (w.heap.size + 1) 0 (hf 6 rfl);have m0 := MC s0 hs tv;have m1 := MC s1 hs tv;clear hd hz hf hw;simp only [if_true, RL, e0];go_simp;exact hK _ _ rfl SR
      ·have e0 := EV 32 (KO (.slice Au c.vers.length cu) c) (hw 3 rfl);have e1 := EV 33 (stV a) (hw 4 rfl);clear hd hz hf hw;simp only [if_true, RL, e0, e1];go_simp;refine (gt wc (Qw.keepAll Hvr.out (hsA.trans hs))).mono ?_;rintro e wd ⟨rfl, hs2⟩;exact hK _ _ rfl hs2
      ·have e0 := EV 34 (.tuple #[.string (str td), .bool tb]) (hw 5 rfl);clear hd hz hf hw;simp only [if_true, RL, e0];go_simp;exact hK _ _ rfl SR
      ·have e0 := EV 28 (.tuple #[.string (str td), .bool tb]) (hw 6 rfl);clear hd hz hf hw;simp only [if_true, RL, e0];go_simp;exact hK _ _ rfl SR
      ·have e0 := EV 28 (.tuple #[.string (str td), .bool tb]) (hw 6 rfl);clear hd hz hf hw;simp only [if_true, RL, e0];go_simp;exact hK _ _ rfl SR
      ·have e0 := EV 35 (.string (str td)) (hw 7 rfl);clear hd hz hf hw;simp only [if_true, RL, e0];go_simp;exact hK _ _ rfl SR
      ·have e0 := EV 36 (.bool tb) (hw 8 rfl);clear hd hz hf hw;simp only [if_true, RL, e0];go_simp;exact hK _ _ rfl SR
     ·intro wB hsB;simp only [Qk, Act.put, LP];have hS6 := hsA.trans hsB;have k0 := hsB.cell (p := (ad.add (k * 12))) tv y0;have HS6 := LH hS6;clear y0 y1 y2 y3 y4 y5 y6 y7 y8 y9 y10 y11 s0 s1 gt gi hsA hsB hS6;cases tb
      ·go_wp2;go_roundw
       case rel => exact ⟨k + 1, by go_num, Hrel.out.keep HS6.out (by omega) (by rw [Hgn.out]; simp)⟩
       case measure => simp [intOf]; omega
      ·go_wp2_with (at_builtin; refine Qf ?_);unfold Hid;refine QT TP (fun _ => rfl) Jp (c := (c.key, td)) rfl (.tmp 38) (.tmp 46) rfl rfl rfl rfl (Hown.out.keepAll HS6.out) (by have := HS6.out.size; omega) (by simp only [maxLen]; omega) (by omega) ?_;intro v' w7 hown7 hS7;have Hown7 := LH hown7;have HS7 := LH hS7;clear hown7 hS7 k0;go_wp2;go_roundw
       case rel =>
        have t5 := HS.out.trans HS6.out;have t6 := t5.trans' HS7.out fun _ h _ => by omega
        have t7 := HS6.out.size;have t8 := HS7.out.size;exact ⟨k + 1, by go_num, by omega, by rw [Hgn.out]; exact Hown7.out, hB1, by omega, (Hr0.out.keep HS6.out tv).keep HS7.out (by omega), (Hr1.out.keep HS6.out tv).keep HS7.out (by omega), t6⟩
       case measure => simp [intOf]; omega
  ·obtain rfl : k = cs.length := by omega
   have x1 : ¬ (cs.length : Int) < (cs.length : Int) := by omega
   clear hr0 hr1 hS hown t0 t1;by_cases hmx : max most 0 < ((JL a cs lo hi cs.length).length : Int)
   ·have z : max (most : Int) 0 = (max most 0) := rfl;have HM := LH hmx;rcases Int.le_total most 0 with hm0 | hm0
    ·have hmx' : (0 : Int) < ((JL a cs lo hi cs.length).length : Int) := by omega
     clear hmx;go_wp2;go_ret2;rw [HK.out, if_pos HM.out];exact ⟨_, rfl, Qg.nil _ _, HS.out⟩
    ·have hmx' : most < ((JL a cs lo hi cs.length).length : Int) := by omega
     clear hmx;go_wp2;go_ret2;rw [HK.out, if_pos HM.out];exact ⟨_, rfl, Qg.nil _ _, HS.out⟩
   ·have HM := LH hmx;go_wp2;go_ret2;rw [HK.out, if_neg (Int.not_lt.2 HM.out)];exact ⟨_, rfl, J2 Hown.out (by omega), HS.out⟩
def Xb (c : Cel) (b : QZ) : Bool := c.locked && (c.lock.by_ == b)
theorem VF (x y : QZ) : (x == y) = (decide (x.node = y.node) && decide (x.life = y.life) && decide (x.seq = y.seq) && decide (x.attempt = y.attempt)) := by
 rw [Bool.eq_iff_iff];cases x; cases y;simp [and_assoc]
set_option maxHeartbeats 1000000 in
theorem Wu (u : Value) (c : Cel) (b : QZ) (p : Nat) (w : World) (hp : Row w p 26 (XM b)) :
  Calls Try.prog 64 #[KO u c, .pointer (some ⟨p, 0, none⟩)] w fun e w' => e = .returned (.bool (Xb c b)) ∧ Qa (fun _ => True) w w' := by
 have hp1 := hp.keep ((Qa.refl (fun _ => True) w).alloc (.cells #[.string (str c.key), u, .bool c.locked, .int .i64 c.lock.by_.node, .int .i64 c.lock.by_.life, .int .i64 c.lock.by_.seq, .int .i64 c.lock.by_.attempt, .int .i64 c.lock.home, .int .i64 c.lock.at_.wall, .int .i64 c.lock.at_.tie, .bool c.lock.drop, .string (str c.lock.data)] 64)) tv;have p0 : (w.alloc (.cells #[.string (str c.key), u, .bool c.locked, .int .i64 c.lock.by_.node, .int .i64 c.lock.by_.life, .int .i64 c.lock.by_.seq, .int .i64 c.lock.by_.attempt, .int .i64 c.lock.home, .int .i64 c.lock.at_.wall, .int .i64 c.lock.at_.tie, .bool c.lock.drop, .string (str c.lock.data)] 64)).cell? ⟨p, 0, none⟩ = some (.int .i64 b.node) := hp1.cell 0;have p1 : (w.alloc (.cells #[.string (str c.key), u, .bool c.locked, .int .i64 c.lock.by_.node, .int .i64 c.lock.by_.life, .int .i64 c.lock.by_.seq, .int .i64 c.lock.by_.attempt, .int .i64 c.lock.home, .int .i64 c.lock.at_.wall, .int .i64 c.lock.at_.tie, .bool c.lock.drop, .string (str c.lock.data)] 64)).cell? ⟨p, 1, none⟩ = some (.int .i64 b.life) := hp1.cell 1;have p2 : (w.alloc (.cells #[.string (str c.key), u, .bool c.locked, .int .i64 c.lock.by_.node, .int .i64 c.lock.by_.life, .int .i64 c.lock.by_.seq, .int .i64 c.lock.by_.attempt, .int .i64 c.lock.home, .int .i64 c.lock.at_.wall, .int .i64 c.lock.at_.tie, .bool c.lock.drop, .string (str c.lock.data)] 64)).cell? ⟨p, 2, none⟩ = some (.int .i64 b.seq) := hp1.cell 2;have p3 : (w.alloc (.cells #[.string (str c.key), u, .bool c.locked, .int .i64 c.lock.by_.node, .int .i64 c.lock.by_.life, .int .i64 c.lock.by_.seq, .int .i64 c.lock.by_.attempt, .int .i64 c.lock.home, .int .i64 c.lock.at_.wall, .int .i64 c.lock.at_.tie, .bool c.lock.drop, .string (str c.lock.data)] 64)).cell? ⟨p, 3, none⟩ = some (.int .i64 b.attempt) := hp1.cell 3;have K : Xb c b = (c.locked && (c.lock.by_ == b)) := rfl;rw [K];clear hp hp1 K;cases hl : c.locked <;> rw [hl] at p0 p1 p2 p3
 ·go_enter Try.func64, Try.ntmps64;go_wp2;go_ret;exact ⟨rfl, SR.alloc _⟩
 ·go_enter Try.func64, Try.ntmps64;go_wp2
  all_goals go_ret
  all_goals first
   | exact ⟨by rw [show (true && c.lock.by_ == b) = true from by simp [VF, *]]; rfl, SR.alloc _⟩
   | exact ⟨by rw [show (true && c.lock.by_ == b) = false from by simp [VF, *]]; rfl, SR.alloc _⟩
def Jk (b : QZ) : List Cel → Nat
 | [] => 0
 | c :: l => if Xb c b then 0 else Jk b l + 1
def Jl (cs : List Cel) (b : QZ) : Bool := cs.any fun c => Xb c b
theorem J0 (b : QZ) : ∀ l : List Cel, Jl l b = decide (Jk b l < l.length)
 | [] => rfl
 | c :: l => by
  have h := J0 b l;unfold Jl at h ⊢;rw [List.any_cons, h];simp only [Jk];by_cases hm : Xb c b = true <;> simp [hm]
def WR (cs : List Cel) (b : QZ) : Int := if Jl cs b then (Jk b cs : Int) else -1
theorem Yr {b : QZ} : ∀ {l : List Cel}, (∀ k (h : k < l.length), Xb l[k] b = false) → Jk b l = l.length
 | [], _ => rfl
 | c :: l, h => by
  unfold Jk;rw [show Xb c b = false from h 0 (by simp), Yr fun k hk => h (k + 1) (by simpa using hk)];rfl
theorem Ug {b : QZ} : ∀ {l : List Cel} {k : Nat} (hk : k < l.length), (∀ j (h : j < l.length), j < k → Xb l[j] b = false) → Xb l[k] b = true → Jk b l = k
 | c :: l, 0, _, _, h => by
  unfold Jk;rw [show Xb c b = true from h];rfl
 | c :: l, k + 1, hk, h, h2 => by
  unfold Jk;rw [show Xb c b = false from h 0 (by simp) (by omega), Ug (k := k) (by simpa using hk) (fun j hj hjk => h (j + 1) (by simpa using hj) (by omega)) h2];rfl
set_option maxHeartbeats 1000000 in
theorem Vf (v : Value) (cs : List Cel) (b : QZ) (p : Nat) (S : Nat → Prop) (w : World) (hv : QU w S v cs) (hp : Row w p 26 (XM b)) (hn : cs.length ≤ 1000000) :
  Calls Try.prog 91 #[v, .func (.func 64) #[] #[.pointer (some ⟨p, 0, none⟩)]] w
   fun e w' => e = .returned (.int .i64 (WR cs b)) ∧ Qa (fun _ => True) w w' := by
 obtain ⟨A, cp, rfl, hc, hm⟩ := hv.form;have Hv := LH hv;have Hp := LH hp;unfold maxLen at hm;clear hv hp;go_enter Try.func91, Try.ntmps91;go_wp2;go_loopw [5, 8] (fun _ i wr => ∃ k : Nat, i = .int .i64 k ∧ k ≤ cs.length ∧ (∀ j (h : j < cs.length), j < k → Xb cs[j] b = false) ∧ Qa (fun _ => True) w wr) (fun _ i _ => cs.length - (intOf i).toNat)
 case atStart => exact ⟨0, rfl, Nat.zero_le _, fun j _ h => absurd h (Nat.not_lt_zero _), Qa.refl _ _⟩
 case round =>
  obtain ⟨k, rfl, hk, hno, hS⟩ := hrel;have HS := LH hS;have Hno := LH hno;clear hno;by_cases hlt : k < cs.length
  ·obtain ⟨ad, u, rfl, -, -, c0, c1, c2, c3, c4, c5, c6, c7, c8, c9, c10, c11⟩ := QU.cells12 (Hv.out.keepAll hS) hlt;have x1 : (0 : Int) ≤ (k : Int) := by omega
   have x2 : (k : Int) < (cs.length : Int) := by omega
   have g := Wu u cs[k] b p wr (Hp.out.keep hS tv);have hat := @Ug b cs k hlt Hno.out;have Hat := LH hat;have hml := J0 b cs;have Hml := LH hml
   have hstep : Xb cs[k] b = false → ∀ j (h : j < cs.length), j < k + 1 → Xb cs[j] b = false := by
    intro h0 j h hj;by_cases e : j = k
    ·subst e; exact h0
    ·exact Hno.out j h (by omega)
   have Hstep := LH hstep;clear hat hS hml hstep;cases hb : Xb cs[k] b
   ·rw [hb] at g;have Hb := LH hb;clear hb;go_wp2_with (go_at_call 64; refine g.mono ?_; rintro e w3 ⟨rfl, hS3⟩);go_roundw
    case rel => exact ⟨k + 1, by go_num, by omega, Hstep.out Hb.out, HS.out.trans hS3⟩
    case measure => simp [intOf]; omega
   ·rw [hb] at g;have Hb := LH hb;clear hb;go_wp2_with (go_at_call 64; refine g.mono ?_; rintro e w3 ⟨rfl, hS3⟩);go_ret;refine ⟨?_, HS.out.trans hS3⟩;rw [show WR cs b = (k : Int) from by unfold WR; rw [Hml.out, Hat.out Hb.out]; simp [hlt]];rfl
  ·have hall := Yr (b := b) (l := cs) fun j h => Hno.out j h (by omega)
   have hml := J0 b cs;rw [hall] at hml;have Hml := LH hml;clear hS hall hml;go_wp2;go_ret;refine ⟨?_, HS.out⟩;rw [show WR cs b = -1 from by unfold WR; rw [Hml.out]; simp];rfl
set_option maxHeartbeats 1000000 in
theorem VB (v : Value) (cs : List Cel) (b : QZ) (p : Nat) (S : Nat → Prop) (w : World) (hv : QU w S v cs) (hp : Row w p 26 (XM b)) (hn : cs.length ≤ 1000000) :
  Calls Try.prog 63 #[v, .func (.func 64) #[] #[.pointer (some ⟨p, 0, none⟩)]] w
   fun e w' => e = .returned (.bool (Jl cs b)) ∧ Qa (fun _ => True) w w' := by
 have g := Vf v cs b p S w hv hp hn;obtain ⟨A, cp, rfl, hc, hm⟩ := hv.form;clear hv hp;unfold WR at g;cases hb : Jl cs b <;> rw [hb] at g
 ·rw [if_neg (by simp)] at g;go_enter Try.func63, Try.ntmps63;go_wp2_with (go_at_call 91; refine g.mono ?_; rintro e w3 ⟨rfl, hS3⟩);go_ret;exact ⟨rfl, hS3⟩
 ·rw [if_pos rfl] at g;have x0 : (0 : Int) ≤ (Jk b cs : Int) := by omega
  go_enter Try.func63, Try.ntmps63;go_wp2_with (go_at_call 91; refine g.mono ?_; rintro e w3 ⟨rfl, hS3⟩);go_ret;exact ⟨rfl, hS3⟩
set_option maxHeartbeats 1000000 in
theorem V4 (v : Value) (cs : List Cel) (b : QZ) (S : Nat → Prop) (w : World) (hv : QU w S v cs) (hn : cs.length ≤ 1000000) :
  Calls Try.prog 24 #[v, QH b] w fun e w' => e = .returned (.bool (Jl cs b)) ∧ Qa (fun _ => True) w w' := by
 have hmf : ∀ (fn : Fn) (first cap : Array Value) (w : World), (Instr.makeFunc fn first cap).run Try.prog w = .ok (.func fn first cap) w := fun _ _ _ _ => rfl
 have g := VB v cs b w.heap.size S (w.alloc (.cells (XM b).toArray 26)) (hv.keepAll (SR.alloc _)) (Row.new w 26 (XM b)) hn;obtain ⟨A, cp, rfl, hc, hm⟩ := hv.form;clear hv;go_enter Try.func24, Try.ntmps24;go_wp2_with (go_at_call 63; refine g.mono ?_; rintro e w3 ⟨rfl, hS3⟩);go_ret;exact ⟨rfl, (SR.alloc _).trans hS3⟩
theorem YT (x y : QZ) : x = y ∨ (x == y) = false ∧ (x.node ≠ y.node ∨ x.node = y.node ∧ x.life ≠ y.life ∨ x.node = y.node ∧ x.life = y.life ∧ x.seq ≠ y.seq ∨ x.node = y.node ∧ x.life = y.life ∧ x.seq = y.seq ∧ x.attempt ≠ y.attempt) := by
 rw [VF];by_cases h1 : x.node = y.node <;> by_cases h2 : x.life = y.life <;> by_cases h3 : x.seq = y.seq <;> by_cases h4 : x.attempt = y.attempt <;> simp [h1, h2, h3, h4]
 cases x; cases y; simp_all
def Vd (b : QZ) (cs : List Cel) (k p : Nat) (w wr : World) : Prop :=
 k ≤ cs.length ∧ (∀ j (h : j < cs.length), j < k → Xb cs[j] b = false) ∧ Row wr p 26 (XM b) ∧ Qa (fun _ => True) w wr
theorem WF {b : QZ} {cs : List Cel} (h : ∀ j (h : j < cs.length), Xb cs[j] b = false) : Jl cs b = false := by
 rw [J0, Yr h];simp
theorem Qau {b : QZ} {cs : List Cel} {k : Nat} (hk : k < cs.length) (h : Xb cs[k] b = true) : Jl cs b = true :=
 List.any_eq_true.2 ⟨_, List.getElem_mem hk, h⟩
set_option maxHeartbeats 2000000 in
theorem VA (v : Value) (cs : List Cel) (b : QZ) (S : Nat → Prop) (w : World) (hv : QU w S v cs) :
  Calls Try.prog 56 #[v, QH b] w fun e w' => e = .returned (.bool (Jl cs b)) ∧ Qa (fun _ => True) w w' := by
 obtain ⟨A, cp, rfl, hc, hm⟩ := hv.form;have Hv := LH hv;unfold maxLen at hm
 have hrel0 : Vd b cs 0 w.heap.size w (w.alloc (.cells (XM b).toArray 26)) :=
  ⟨Nat.zero_le _, fun j _ h => absurd h (Nat.not_lt_zero _), Row.new _ _ _, SR.alloc _⟩
 have Hrel0 := LH hrel0;clear hv hrel0;go_enter Try.func56, Try.ntmps56;go_wp2;go_loopw [5] (fun i wr => ∃ k : Nat, i = .int .i64 k ∧ Vd b cs k w.heap.size w wr) (fun i _ => cs.length - (intOf i).toNat)
 case atStart => exact ⟨0, rfl, Hrel0.out⟩
 case round =>
  obtain ⟨k, rfl, hk, hno, hp, hS⟩ := hrel;have HS := LH hS;have Hno := LH hno;have Hp := LH hp;have p0 : wr.cell? ⟨w.heap.size, 0, none⟩ = some (.int .i64 b.node) := hp.cell 0;have p1 : wr.cell? ⟨w.heap.size, 1, none⟩ = some (.int .i64 b.life) := hp.cell 1;have p2 : wr.cell? ⟨w.heap.size, 2, none⟩ = some (.int .i64 b.seq) := hp.cell 2;have p3 : wr.cell? ⟨w.heap.size, 3, none⟩ = some (.int .i64 b.attempt) := hp.cell 3;clear hno hp;by_cases hlt : k < cs.length
  ·obtain ⟨ad, u, rfl, -, -, c0, c1, c2, c3, c4, c5, c6, -, -, -, -, -⟩ := QU.cells12 (Hv.out.keepAll hS) hlt;have x1 : (0 : Int) ≤ (k : Int) := by omega
   have x2 : (k : Int) < (cs.length : Int) := by omega
   have hat := @Qau b cs k hlt
   have hstep : Xb cs[k] b = false → ∀ j (h : j < cs.length), j < k + 1 → Xb cs[j] b = false := by
    intro h0 j h hj;by_cases e : j = k
    ·subst e; exact h0
    ·exact Hno.out j h (by omega)
   have hmb : Xb cs[k] b = (cs[k].locked && (cs[k].lock.by_ == b)) := rfl;clear hS c0 c1;generalize Xb cs[k] b = mb at *;generalize cs[k] = c at *;have Hat := LH hat;have Hstep := LH hstep;clear hat hstep;cases hl : c.locked
   ·rw [hl] at c2;have Hmb := LH (show mb = false by rw [hmb, hl]; rfl);clear hl hmb;go_wp2_with (go_quiet (fail));go_roundw
    case rel => exact ⟨k + 1, by go_num, by omega, Hstep.out Hmb.out, Hp.out.keep ((ST).drewN _) tv, HS.out.drewN _⟩
    case measure => simp [intOf]; omega
   ·rw [hl] at c2;rcases YT c.lock.by_ b with he | ⟨he, h | ⟨h1, h⟩ | ⟨h1, h2, h⟩ | ⟨h1, h2, h3, h⟩⟩
    ·rw [he] at c3 c4 c5 c6;have Hmb := LH (show mb = true by rw [hmb, hl, he]; simp);clear hl hmb he;go_wp2_with (go_quiet (fail));go_ret;exact ⟨by rw [Hat.out Hmb.out]; rfl, HS.out.drewN _⟩
    ·have Hmb := LH (show mb = false by rw [hmb, hl, he]; rfl);clear hl hmb he;go_wp2_with (go_quiet (fail));go_roundw
     case rel => exact ⟨k + 1, by go_num, by omega, Hstep.out Hmb.out, Hp.out.keep ((ST).drewN _) tv, HS.out.drewN _⟩
     case measure => simp [intOf]; omega
    ·have Hmb := LH (show mb = false by rw [hmb, hl, he]; rfl);rw [h1] at c3;clear hl hmb he;go_wp2_with (go_quiet (fail));go_roundw
     case rel => exact ⟨k + 1, by go_num, by omega, Hstep.out Hmb.out, Hp.out.keep ((ST).drewN _) tv, HS.out.drewN _⟩
     case measure => simp [intOf]; omega
    ·have Hmb := LH (show mb = false by rw [hmb, hl, he]; rfl);rw [h1] at c3;rw [h2] at c4;clear hl hmb he;go_wp2_with (go_quiet (fail));go_roundw
     case rel => exact ⟨k + 1, by go_num, by omega, Hstep.out Hmb.out, Hp.out.keep ((ST).drewN _) tv, HS.out.drewN _⟩
     case measure => simp [intOf]; omega
    ·have Hmb := LH (show mb = false by rw [hmb, hl, he]; rfl);rw [h1] at c3;rw [h2] at c4;rw [h3] at c5;clear hl hmb he;go_wp2_with (go_quiet (fail));go_roundw
     case rel => exact ⟨k + 1, by go_num, by omega, Hstep.out Hmb.out, Hp.out.keep ((ST).drewN _) tv, HS.out.drewN _⟩
     case measure => simp [intOf]; omega
  ·have hall := WF (b := b) (cs := cs) fun j h => Hno.out j h (by omega)
   have Hall := LH hall;clear hS hall p0 p1 p2 p3;go_wp2;go_ret;exact ⟨by rw [Hall.out]; rfl, HS.out⟩
def X5 {α : Type} (f : α → List Value) (n : Nat) (e : TypeId) (w : World) (S : Nat → Prop) (v : Value) (l : List α) : Prop :=
 ∃ A c, v = .slice A l.length c ∧ l.length ≤ c ∧ c ≤ maxLen ∧ (0 < l.length → ∃ g o cur, A = some ⟨g, o, none⟩ ∧ S g ∧ w.heap[g]? = some (.cells cur e (0, 0)) ∧ ∀ j u, (l.flatMap f)[j]? = some u → cur[o + j]? = some u)
section
variable {α : Type} {f : α → List Value} {n : Nat} {e : TypeId} {w w' : World} {S S' : Nat → Prop} {v : Value} {l : List α}
theorem X5.keep (h : X5 f n e w S v l) (hs : Qa S w w') : X5 f n e w' S v l := by
 obtain ⟨A, c, h1, h2, h3, h4⟩ := h;refine ⟨A, c, h1, h2, h3, fun h0 => ?_⟩;obtain ⟨g, o, cur, e1, e2, e3, e4⟩ := h4 h0;exact ⟨g, o, cur, e1, e2, by rw [hs.block g (Array.getElem?_eq_some_iff.1 e3).1 e2]; exact e3, e4⟩
theorem X5.mono (h : X5 f n e w S v l) (hS : ∀ k, k < w.heap.size → S k → S' k) : X5 f n e w S' v l := by
 obtain ⟨A, c, h1, h2, h3, h4⟩ := h;refine ⟨A, c, h1, h2, h3, fun h0 => ?_⟩;obtain ⟨g, o, cur, e1, e2, e3, e4⟩ := h4 h0;exact ⟨g, o, cur, e1, hS g (Array.getElem?_eq_some_iff.1 e3).1 e2, e3, e4⟩
theorem X5.keepAll (h : X5 f n e w S v l) (hs : Qa (fun _ => True) w w') : X5 f n e w' S v l := h.keep (hs.mono fun _ _ _ => tv)
theorem X7 (g o j : Nat) : (⟨g, o, none⟩ : Addr).add j = ⟨g, o + j, none⟩ := by
 by_cases h : j = 0
 ·subst h; rw [add_zero]; rfl
 ·rw [JK _ j (by omega)]
theorem X5.row (h : X5 f n e w S v l) (hf : ∀ x, (f x).length = n) : Qw f n w S v l := by
 obtain ⟨A, c, h1, h2, h3, h4⟩ := h;refine ⟨A, c, h1, h2, h3, XK f n hf l, fun h0 => ?_⟩;obtain ⟨g, o, cur, e1, e2, e3, e4⟩ := h4 h0;refine ⟨_, e1, e2, fun j u hu => ?_⟩;rw [X7, cell_of_row w g (o + j) _ e (0, 0) e3];exact e4 j u hu
theorem Qg.wr {B : Nat} (h : Qg f n e w B v l) : X5 f n e w (fun k => B ≤ k) v l := by
 rcases h.2 with ⟨rfl, h0⟩ | ⟨g, cap, cur, rfl, hB, hg, h1, h2, h3, h4⟩
 ·exact ⟨none, 0, by rw [h0], by omega, by simp [maxLen], fun hp => by omega⟩
 ·refine ⟨_, _, rfl, h1, h2, fun _ => ⟨g, 0, cur, rfl, hB, hg, fun j u hu => ?_⟩⟩;rw [← h4, List.getElem?_take] at hu;split at hu
  ·rw [Nat.zero_add, ← hu]; simp
  ·cases hu
theorem Qg.empty (f : α → List Value) (n : Nat) (e : TypeId) (w : World) : Qg f n e (w.alloc (.cells #[] e)) w.heap.size (.slice (some ⟨w.heap.size, 0, none⟩) 0 0) [] :=
 ⟨by simp, .inr ⟨w.heap.size, 0, #[], rfl, Nat.le_refl _, Row.new w e [], by simp, by simp [maxLen], by simp, by simp⟩⟩
theorem Qg.lower {B B' : Nat} (h : Qg f n e w B v l) (hb : B' ≤ B) : Qg f n e w B' v l := J2 h hb
theorem ZT {P : Program} {t : TypeId} {bytes : Nat} {z : Value} (T : SlT P t e n bytes z) (hf : ∀ x, (f x).length = n) (h1 : ∀ x, ∀ u ∈ f x, u.oneCell' = true) {ops : Array Oper} {rest : List Oper} {o : Oper} {a : Act} {Q : Exit → Act → World → Prop} (hgd : o.guard = none) (s x : Operand)
  (ho : o.op = .call { callee := .builtin .append, args := #[s, x], argTypes := #[t, t] }) {B : Nat} {l2 : List α} {x' : Value}
  (hs : a.eval s = v) (hx : a.eval x = x') (hr : Qw f n w S x' l2) (hown : Qg f n e w B v l) (hB : B ≤ w.heap.size) (hlen : l.length + l2.length ≤ maxLen) (hbytes : (l.length + l2.length) * bytes ≤ 140737488355328)
  (hK : ∀ v' w', Qg f n e w' B v' (l ++ l2) → Qa (fun k => some k ≠ v.ownBlock) w w' → wpList P ops Q rest (a.put o.dst v') w') : wpList P ops Q (o :: rest) a w := by
 obtain ⟨A, c, rfl, h2, h3, h4⟩ := hr;refine Zu T _ hgd s x ho B v l.length (l.flatMap f) hs hown S A l2.length c (l2.flatMap f) hx h4 (fun u hu => ?_) hlen hbytes hB ?_
 ·obtain ⟨x, _, hx⟩ := List.mem_flatMap.1 hu;exact h1 x u hx
 intro v' w' k1 k2 k3;refine hK v' w' ?_ k2;unfold Qg;rw [List.length_append, List.flatMap_append];exact k1
end
theorem QV (p : Ver) : ∀ u ∈ Qz p, u.oneCell' = true := by
 intro u hu;simp only [Qz, List.mem_cons, List.not_mem_nil, or_false] at hu;rcases hu with rfl | rfl | rfl | rfl <;> rfl
theorem ZD : SlT Try.prog 62 69 4 40 (.agg #[.int .i64 0, .int .i64 0, .bool false, .string ⟨#[]⟩]) := ⟨by kernel_rfl, by kernel_rfl, rfl, by omega⟩
abbrev QaW (w : World) (B : Nat) (v : Value) (l : List Ver) : Prop := Qg Qz 4 69 w B v l
def Qag (l : List Ver) (w : World) (e : Ending) (w' : World) : Prop := ∃ v, e = .returned v ∧ QaW w' w.heap.size v l ∧ Qa (fun _ => True) w w'
set_option maxHeartbeats 1000000 in
theorem Uu (v : Value) (l : List Ver) (S : Nat → Prop) (w : World) (hv : Zl w S v l) (hn : l.length ≤ 1000000) :
  Calls Try.prog 92 #[v] w (Qag l w) := by
 obtain ⟨A, cp, rfl, hc, hm⟩ := hv.form;unfold maxLen at hm;have qN : ∀ (w : World) (a : Option Addr) (n c : Nat), (binOp .eql 62 (.slice a n c) (.slice none 0 0)).run Try.prog w = .ok (.bool a.isNone) w := fun w a n c => Lib.run_eql_slice_nil w _ _ a n c 0 0 ZD.und
 cases A with
 | none =>
  have h0 : l = [] := by
   rcases l with _ | ⟨x, l⟩
   ·rfl
   ·obtain ⟨ad, c, h, _⟩ := Qw.at_ hv Qq (i := 0) (by simp);cases h
  subst h0;clear hv;go_enter Try.func92, Try.ntmps92;go_wp2;go_ret;exact ⟨_, rfl, Qg.nil _ _, Qa.refl _ _⟩
 | some ad =>
  have Hv := LH hv;clear hv;go_enter Try.func92, Try.ntmps92;go_wp2_with (at_builtin; refine Qf ?_);unfold Hid;refine ZT ZD Qq QV rfl (.tmp 5) (.tmp 6) rfl rfl rfl (Hv.out.keepAll (SR.alloc _)) (Qg.empty Qz 4 _ w) (by rw [World.size_alloc]; omega) (by simp only [maxLen, List.length_nil]; omega) (by simp only [List.length_nil]; omega) ?_;intro v' w' hown hS;have Hown := LH hown;have HS := LH hS;clear hown hS;go_wp2;go_ret;refine ⟨_, rfl, by simpa using Hown.out, ((ST).alloc _).trans' HS.out fun k hk _ e => ?_⟩;injection (show some k = some w.heap.size from e) with e;omega
theorem J8 {S : Nat → Prop} {w wr : World} {g : Nat} {a0 a1 a2 a3 a4 a5 a6 a7 a8 a9 a10 a11 b0 b1 b2 b3 b4 b5 b6 b7 b8 b9 b10 b11 : Value} (hg : g < w.heap.size → ¬ S g) (HR : Row wr g 64 [a0, a1, a2, a3, a4, a5, a6, a7, a8, a9, a10, a11]) (HS : Qa S w wr) :
  Row ((((((((((((wr.setCell ⟨g, 0, none⟩ b0).setCell ⟨g, 1, none⟩ b1).setCell ⟨g, 2, none⟩ b2).setCell ⟨g, 3, none⟩ b3).setCell ⟨g, 4, none⟩ b4).setCell ⟨g, 5, none⟩ b5).setCell ⟨g, 6, none⟩ b6).setCell ⟨g, 7, none⟩ b7).setCell ⟨g, 8, none⟩ b8).setCell ⟨g, 9, none⟩ b9).setCell ⟨g, 10, none⟩ b10).setCell ⟨g, 11, none⟩ b11) g 64 [b0, b1, b2, b3, b4, b5, b6, b7, b8, b9, b10, b11] ∧ Qa S w ((((((((((((wr.setCell ⟨g, 0, none⟩ b0).setCell ⟨g, 1, none⟩ b1).setCell ⟨g, 2, none⟩ b2).setCell ⟨g, 3, none⟩ b3).setCell ⟨g, 4, none⟩ b4).setCell ⟨g, 5, none⟩ b5).setCell ⟨g, 6, none⟩ b6).setCell ⟨g, 7, none⟩ b7).setCell ⟨g, 8, none⟩ b8).setCell ⟨g, 9, none⟩ b9).setCell ⟨g, 10, none⟩ b10).setCell ⟨g, 11, none⟩ b11) :=
 ⟨((((((((((((HR.set_ 0 b0).set_ 1 b1).set_ 2 b2).set_ 3 b3).set_ 4 b4).set_ 5 b5).set_ 6 b6).set_ 7 b7).set_ 8 b8).set_ 9 b9).set_ 10 b10).set_ 11 b11), ((((((((((((HS.setCell hg _).setCell hg _).setCell hg _).setCell hg _).setCell hg _).setCell hg _).setCell hg _).setCell hg _).setCell hg _).setCell hg _).setCell hg _).setCell hg _)⟩
theorem QD {w : World} {g : Nat} {a0 a1 a2 a3 a4 a5 a6 a7 a8 a9 a10 a11 : Value} (h : Row w g 64 [a0, a1, a2, a3, a4, a5, a6, a7, a8, a9, a10, a11]) : w.cell? ⟨g, 0, none⟩ = some a0 ∧ w.cell? ⟨g, 1, none⟩ = some a1 ∧ w.cell? ⟨g, 2, none⟩ = some a2 ∧ w.cell? ⟨g, 3, none⟩ = some a3 ∧ w.cell? ⟨g, 4, none⟩ = some a4 ∧ w.cell? ⟨g, 5, none⟩ = some a5 ∧ w.cell? ⟨g, 6, none⟩ = some a6 ∧ w.cell? ⟨g, 7, none⟩ = some a7 ∧ w.cell? ⟨g, 8, none⟩ = some a8 ∧ w.cell? ⟨g, 9, none⟩ = some a9 ∧ w.cell? ⟨g, 10, none⟩ = some a10 ∧ w.cell? ⟨g, 11, none⟩ = some a11 ∧ w.frozen? ⟨g, 0, none⟩ = false ∧ w.frozen? ⟨g, 1, none⟩ = false ∧ w.frozen? ⟨g, 2, none⟩ = false ∧ w.frozen? ⟨g, 3, none⟩ = false ∧ w.frozen? ⟨g, 4, none⟩ = false ∧ w.frozen? ⟨g, 5, none⟩ = false ∧ w.frozen? ⟨g, 6, none⟩ = false ∧ w.frozen? ⟨g, 7, none⟩ = false ∧ w.frozen? ⟨g, 8, none⟩ = false ∧ w.frozen? ⟨g, 9, none⟩ = false ∧ w.frozen? ⟨g, 10, none⟩ = false ∧ w.frozen? ⟨g, 11, none⟩ = false :=
 ⟨h.cell 0, h.cell 1, h.cell 2, h.cell 3, h.cell 4, h.cell 5, h.cell 6, h.cell 7, h.cell 8, h.cell 9, h.cell 10, h.cell 11, h.frozen 0, h.frozen 1, h.frozen 2, h.frozen 3, h.frozen 4, h.frozen 5, h.frozen 6, h.frozen 7, h.frozen 8, h.frozen 9, h.frozen 10, h.frozen 11⟩
theorem Vc {W : World} {k : Nat} {u : Value} {c : Cel} (R : Row W k 64 (Qj (u, c))) {tmps : Array Value}
  (h2 : tmps.getD 2 undef = .pointer (some ⟨k, 0, none⟩)) :
  (results Try.f65 tmps).run Try.prog W = .ok (KO u c) W := by
 have d0 : W.cell? ⟨k, 0, none⟩ = some (.string (str c.key)) := R.cell 0;have d1 : W.cell? ⟨k, 1, none⟩ = some (u) := R.cell 1;have d2 : W.cell? ⟨k, 2, none⟩ = some (.bool c.locked) := R.cell 2;have d3 : W.cell? ⟨k, 3, none⟩ = some (.int .i64 c.lock.by_.node) := R.cell 3;have d4 : W.cell? ⟨k, 4, none⟩ = some (.int .i64 c.lock.by_.life) := R.cell 4;have d5 : W.cell? ⟨k, 5, none⟩ = some (.int .i64 c.lock.by_.seq) := R.cell 5;have d6 : W.cell? ⟨k, 6, none⟩ = some (.int .i64 c.lock.by_.attempt) := R.cell 6;have d7 : W.cell? ⟨k, 7, none⟩ = some (.int .i64 c.lock.home) := R.cell 7;have d8 : W.cell? ⟨k, 8, none⟩ = some (.int .i64 c.lock.at_.wall) := R.cell 8;have d9 : W.cell? ⟨k, 9, none⟩ = some (.int .i64 c.lock.at_.tie) := R.cell 9;have d10 : W.cell? ⟨k, 10, none⟩ = some (.bool c.lock.drop) := R.cell 10;have d11 : W.cell? ⟨k, 11, none⟩ = some (.string (str c.lock.data)) := R.cell 11;simp at h2;simp [results, Try.results65, h2, go_sem, d0, d1, d2, d3, d4, d5, d6, d7, d8, d9, d10, d11]
def Qbm (c : Cel) (w : World) (e : Ending) (w' : World) : Prop := ∃ u, e = .returned (KO u c) ∧ QaW w' w.heap.size u c.vers ∧ Qa (fun _ => True) w w'
set_option maxHeartbeats 1000000 in
theorem UA (u : Value) (c : Cel) (S : Nat → Prop) (w : World) (hv : Zl w S u c.vers) (hn : c.vers.length ≤ 1000000) :
  Calls Try.prog 65 #[KO u c] w (Qbm c w) := by
 obtain ⟨W0, hW0⟩ : ∃ W0, W0 = (w.alloc (.cells #[.string (str c.key), u, .bool c.locked, .int .i64 c.lock.by_.node, .int .i64 c.lock.by_.life, .int .i64 c.lock.by_.seq, .int .i64 c.lock.by_.attempt, .int .i64 c.lock.home, .int .i64 c.lock.at_.wall, .int .i64 c.lock.at_.tie, .bool c.lock.drop, .string (str c.lock.data)] 64)).alloc (.cells #[.string ⟨#[]⟩, .slice none 0 0, .bool false, .int .i64 0, .int .i64 0, .int .i64 0, .int .i64 0, .int .i64 0, .int .i64 0, .int .i64 0, .bool false, .string ⟨#[]⟩] 64) := ⟨_, rfl⟩;have hS0 : Qa (fun _ => True) w W0 := by rw [hW0]; exact (SR.alloc _).alloc _
 have hz0 : W0.heap.size = w.heap.size + 2 := by rw [hW0, World.size_alloc, World.size_alloc]
 have hr0 : Row W0 w.heap.size 64 (Qj (u, c)) := by
  rw [hW0];exact (Row.new w 64 (Qj (u, c))).keep ((ST).alloc _) tv
 have hr1 : Row W0 (w.heap.size + 1) 64 (#[.string ⟨#[]⟩, .slice none 0 0, .bool false, .int .i64 0, .int .i64 0, .int .i64 0, .int .i64 0, .int .i64 0, .int .i64 0, .int .i64 0, .bool false, .string ⟨#[]⟩] : Array Value).toList := by
  have := Row.new (w.alloc (.cells #[.string (str c.key), u, .bool c.locked, .int .i64 c.lock.by_.node, .int .i64 c.lock.by_.life, .int .i64 c.lock.by_.seq, .int .i64 c.lock.by_.attempt, .int .i64 c.lock.home, .int .i64 c.lock.at_.wall, .int .i64 c.lock.at_.tie, .bool c.lock.drop, .string (str c.lock.data)] 64)) 64 (#[.string ⟨#[]⟩, .slice none 0 0, .bool false, .int .i64 0, .int .i64 0, .int .i64 0, .int .i64 0, .int .i64 0, .int .i64 0, .int .i64 0, .bool false, .string ⟨#[]⟩] : Array Value).toList;rw [World.size_alloc] at this;rw [hW0]; exact this
 have g := Uu u c.vers S W0 (hv.keepAll hS0) hn;obtain ⟨Au, cu, rfl, -, -⟩ := hv.form;have HS0 := LH hS0;have Hr0 := LH hr0;have Hr1 := LH hr1;have HW0 := LH hW0;have Hz0 := LH hz0;clear hv hS0 hr0 hr1 hW0 hz0;go_enter Try.func65, Try.ntmps65;go_wp2_with (go_at_call 92; refine Qf ?_);unfold Hid;rw [← HW0.out];refine g.mono ?_;rintro e w1 ⟨u', rfl, hown, hS⟩;obtain ⟨A, cp, rfl, -, -⟩ := hown.form;have hq0 := Hr0.out.keep hS tv;have hq1 := Hr1.out.keep hS tv;have Hq0 := LH hq0;have Hq1 := LH hq1;have Hown := LH hown;have HS := LH hS;obtain ⟨a0, a1, a2, a3, a4, a5, a6, a7, a8, a9, a10, a11, f0, f1, f2, f3, f4, f5, f6, f7, f8, f9, f10, f11⟩ := QD hq0;obtain ⟨d0, d1, d2, d3, d4, d5, d6, d7, d8, d9, d10, d11, e0, e1, e2, e3, e4, e5, e6, e7, e8, e9, e10, e11⟩ := QD hq1;have z0 := hq0.lt;have z1 := hq1.lt;clear hown hS hq0 hq1 g f0 f2 f3 f4 f5 f6 f7 f8 f9 f10 f11;go_wp2;have k1 := Hq0.out.set_ 1 (.slice A c.vers.length cp);have k2 : Row (w1.setCell ⟨w.heap.size, 1, none⟩ (.slice A c.vers.length cp)) (w.heap.size + 1) 64 (#[.string ⟨#[]⟩, .slice none 0 0, .bool false, .int .i64 0, .int .i64 0, .int .i64 0, .int .i64 0, .int .i64 0, .int .i64 0, .int .i64 0, .bool false, .string ⟨#[]⟩] : Array Value).toList := Hq1.out.keep ((Qa.refl (fun k => k = w.heap.size + 1) w1).setCell (fun _ h => by simp at h) _) rfl;have t1 : Qa (fun k => k ≠ w.heap.size ∧ k ≠ w.heap.size + 1) w1 (w1.setCell ⟨w.heap.size, 1, none⟩ (.slice A c.vers.length cp)) := (Qa.refl _ w1).setCell (fun _ h => h.1 rfl) _;obtain ⟨r1, r2⟩ := J8 (b0 := .string (str c.key)) (b1 := .slice A c.vers.length cp) (b2 := .bool c.locked) (b3 := .int .i64 c.lock.by_.node) (b4 := .int .i64 c.lock.by_.life) (b5 := .int .i64 c.lock.by_.seq) (b6 := .int .i64 c.lock.by_.attempt) (b7 := .int .i64 c.lock.home) (b8 := .int .i64 c.lock.at_.wall) (b9 := .int .i64 c.lock.at_.tie) (b10 := .bool c.lock.drop) (b11 := .string (str c.lock.data)) (fun _ h => h.2 rfl) k2 t1;refine bodyPost_ret (Vc (u := .slice A c.vers.length cp) (c := c) r1 rfl) rfl ⟨_, rfl, (Hown.out.keep r2 fun k h1 h2 => ?_).lower (by rw [Hz0.out]; omega), (HS0.out.trans HS.out).trans' r2 fun k hk _ => ?_⟩
 ·have := Hz0.out;constructor <;> omega
 ·constructor <;> omega
end Go.Proofs.Ytoldelocfmpccaa
