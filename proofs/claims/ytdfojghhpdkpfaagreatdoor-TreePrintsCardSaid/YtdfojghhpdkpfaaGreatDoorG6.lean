/-
  Words, plain models, laws and walks that the claims of this layer share (joined by shake.py). No condition.
-/
import Derived.Test.YtdfojghhpdkpfaaGreatDoorG5
set_option linter.unusedSimpArgs false
set_option linter.unusedVariables false
namespace Go.Proofs.YtdfojghhpdkpfaaGreatDoor
open Go.RowKit
theorem eqV (a b : Val) (w : World) : (binOp .eql 31 (.agg #[.int .i64 a.kind, .int .i64 a.n, .string (str a.s)]) (.agg #[.int .i64 b.kind, .int .i64 b.n, .string (str b.s)])).run Tryz.prog w = .ok (.bool (decide (a = b))) w := by
 have hg : Tryz.prog.stoodInHeld 31 = false := by kernel_rfl
 rw [run_eql_struct];simp [go_sem, hg, Tryz.underlying31, Tryz.underlying3, Tryz.underlying2, Tryz.underlying9]
 have he : (a = b) ↔ (a.kind = b.kind ∧ a.n = b.n ∧ a.s = b.s) := by
  constructor
  ·intro h; subst h; exact ⟨rfl, rfl, rfl⟩
  ·obtain ⟨x1, x2, x3⟩ := a;obtain ⟨y1, y2, y3⟩ := b;rintro ⟨h1, h2, h3⟩;dsimp only at h1 h2 h3;subst h1 h2 h3; rfl
 by_cases h1 : a.kind = b.kind
 ·by_cases h2 : a.n = b.n
  ·by_cases h3 : a.s = b.s
   ·simp [h1, h2, h3, he]
   ·simp [h1, h2, h3, he]
  ·simp [h1, h2, he]
 ·simp [h1, he]
theorem neV (a b : Val) (w : World) : (binOp .neq 31 (.agg #[.int .i64 a.kind, .int .i64 a.n, .string (str a.s)]) (.agg #[.int .i64 b.kind, .int .i64 b.n, .string (str b.s)])).run Tryz.prog w = .ok (.bool (!decide (a = b))) w := by
 have := eqV a b w;simp only [binOp, Sem.run_bind] at this ⊢;cases h : Sem.run Tryz.prog (Op.equal 31 (.agg #[.int .i64 a.kind, .int .i64 a.n, .string (str a.s)]) (.agg #[.int .i64 b.kind, .int .i64 b.n, .string (str b.s)])) w <;> rw [h] at this <;> simp_all [Result.andThen]
theorem mayEs_cons (a : Ex) (l : List Ex) (n : Nat) : mayEs (a :: l) n = (mayE a n && mayEs l n) := by rw [mayEs]
set_option maxRecDepth 100000 in
set_option maxHeartbeats 8000000 in
theorem mayx_any : ∀ (e : Ex) (n : Nat) (u : Value) (w : World), n ≤ 16 → ExR w (fun _ => True) u e → Mx w → Calls Tryz.prog 58 #[exV u e, .int .i64 (n : Int)] w (BoolP (mayE e n) w) := by
 apply Ex.ind;intro k s v l ih n u w hn hr hm;obtain ⟨A, c, rfl, hc1, hc2⟩ := hr.toL.form;have hl : ExL w (fun _ => True) (.slice A l.length c) l := hr.toL;have hc1 : l.length ≤ c := hc1;show Calls Tryz.prog 58 #[.agg #[.int .i64 k, .string (str s), .int .i64 v.kind, .int .i64 v.n, .string (str v.s), .slice A l.length c], .int .i64 (n : Int)] w (BoolP (mayE (.mk k s v l) n) w);unfold maxLen at hc2;obtain ⟨X, hX⟩ : ∃ X, X = mayE (.mk k s v l) n := ⟨_, rfl⟩;rw [← hX];rw [mayE] at hX;have HX := LH hX;have hA := (Same.refl (fun _ => True) w).alloc (.cells #[.int .i64 k, .string (str s), .int .i64 v.kind, .int .i64 v.n, .string (str v.s), .slice A l.length c] 34);have hrow := Row.new w 34 [.int .i64 k, .string (str s), .int .i64 v.kind, .int .i64 v.n, .string (str v.s), .slice A l.length c];have hl1 := hl.keepAll hA;have hm1 := hm.keep hA;have hlc : (l.length : Int) ≤ (c : Int) := by omega
 clear hX hr hm hl;go_enter Tryz.func58, Tryz.ntmps58;go_upto_region 1 with (fail);revert hA hrow hl1 hm1;generalize w.alloc _ = w1;intro hA hrow hl1 hm1;have HL := LH hl1;have HM := LH hm1;have HS := LH hA;have c0 := hrow.cell 0;have c1 := hrow.cell 1;have c2 := hrow.cell 2;have c3 := hrow.cell 3;have c4 := hrow.cell 4;have c5 := hrow.cell 5;simp only [LG] at c0 c1 c2 c3 c4 c5;have HROW := LH hrow;clear hA hl1 hm1 hrow;by_cases h0 : n = 0
 ·have e0 : ((n : Int) == 0) = true := by rw [h0]; rfl
  have HB : Hid (false = X) := LH (by rw [HX.out, if_pos h0]);clear h0;go_wp2;go_ret;exact ⟨ret_bool HB.out, HS.out⟩
 have e0 : ((n : Int) == 0) = false := no_k h0;have hX := HX.out;rw [if_neg h0] at hX;have HX := LH hX;have hn1 : 1 ≤ n := by omega
 clear h0 hX;by_cases h1 : k = 1
 ·have e1 : (k == 1) = true := by rw [h1]; rfl
  have hX := HX.out;rw [if_pos h1] at hX;have HX := LH hX;clear h1 hX;by_cases hs : s = []
  ·by_cases hl0 : l.length = 0
   ·have e3 : ((l.length : Int) == 0) = true := by rw [hl0]; rfl
    subst hs;have HX2 : Hid ((mayV v && decide (0 ≤ v.n)) = X) := LH (by rw [HX.out, hl0]; simp);clear hl0;go_wp2_with (go_at_call 100; refine stopAt ?_);unfold Hid;refine (exMay_any v w1).mono ?_;rintro e w2 ⟨rfl, hS⟩;have HS := LH (HS.out.trans hS);have k3 := hS.cell (p := ⟨w.heap.size, 3, none⟩) tv c3;clear hS;cases hv : mayV v
    ·have HB : Hid (false = X) := LH (by rw [← HX2.out, hv]; rfl);clear hv;go_wp2;go_ret;exact ⟨ret_bool HB.out, HS.out⟩
    ·have HB : Hid (decide (0 ≤ v.n) = X) := LH (by rw [← HX2.out, hv]; rfl);clear hv;go_wp2;go_ret;exact ⟨ret_bool HB.out, HS.out⟩
   ·have e3 : ((l.length : Int) == 0) = false := no_k hl0;subst hs;have HB : Hid (false = X) := LH (by rw [HX.out, decide_eq_false hl0]; simp);clear hl0;go_wp2;go_ret;exact ⟨ret_bool HB.out, HS.out⟩
  ·have e2 := str_no hs;have HB : Hid (false = X) := LH (by rw [HX.out, decide_eq_false hs]; simp);go_wp2;go_ret;exact ⟨ret_bool HB.out, HS.out⟩
 have e1 : (k == 1) = false := by simpa using h1
 have hX := HX.out;rw [if_neg h1] at hX;have HX := LH hX;clear h1 hX;by_cases h2 : k = 2
 ·have e2 : (k == 2) = true := by rw [h2]; rfl
  have hX := HX.out;rw [if_pos h2] at hX;have HX := LH hX;clear h2 hX;by_cases hv : v = .zero
  ·have hez : ∀ w, (binOp .eql 31 (.agg #[.int .i64 v.kind, .int .i64 v.n, .string (str v.s)]) (.agg #[.int .i64 0, .int .i64 0, .string ⟨#[]⟩])).run Tryz.prog w = .ok (.bool true) w := fun w => by
    have := eqV v .zero w;rw [decide_eq_true hv] at this;exact this
   by_cases hl0 : l.length = 0
   ·have e3 : ((l.length : Int) == 0) = true := by rw [hl0]; rfl
    have HB : Hid (wordF s = X) := LH (by rw [HX.out, hl0, decide_eq_true hv]; simp);have hw := lexword_all (str s) w1 HM.out (b := X) HB.out;clear hl0 hv;go_wp2_with (go_at_call 57; refine stopAt ?_);unfold Hid;refine hw.mono ?_;rintro e w2 ⟨rfl, hS⟩;have HS := LH (HS.out.trans hS);clear hS hw;go_wp2;go_ret;exact ⟨rfl, HS.out⟩
   ·have e3 : ((l.length : Int) == 0) = false := no_k hl0;have HB : Hid (false = X) := LH (by rw [HX.out, decide_eq_false hl0]; simp);clear hl0 hv;go_wp2;go_ret;exact ⟨ret_bool HB.out, HS.out⟩
  ·have hez : ∀ w, (binOp .eql 31 (.agg #[.int .i64 v.kind, .int .i64 v.n, .string (str v.s)]) (.agg #[.int .i64 0, .int .i64 0, .string ⟨#[]⟩])).run Tryz.prog w = .ok (.bool false) w := fun w => by
    have := eqV v .zero w;rw [decide_eq_false hv] at this;exact this
   have HB : Hid (false = X) := LH (by rw [HX.out, decide_eq_false hv]; simp);clear hv;go_wp2;go_ret;exact ⟨ret_bool HB.out, HS.out⟩
 have e2 : (k == 2) = false := by simpa using h2
 have hX := HX.out;rw [if_neg h2] at hX;have HX := LH hX;clear h2 hX;go_upto_region 7 with (fail);by_cases h3 : k = 3
 ·have e3n : (k != 3) = false := by rw [h3]; rfl
  by_cases hv : v = .zero
  ·have hez : ∀ w, (binOp .neq 31 (.agg #[.int .i64 v.kind, .int .i64 v.n, .string (str v.s)]) (.agg #[.int .i64 0, .int .i64 0, .string ⟨#[]⟩])).run Tryz.prog w = .ok (.bool false) w := fun w => by
    have := neV v .zero w;rw [decide_eq_true hv] at this;exact this
   by_cases hN : (l.length : Int) = argsN s
   ·have e4n : ((l.length : Int) != argsN s) = false := by rw [hN]; simp
    have HX2 : Hid (X = mayEs l (n - 1)) := LH (by rw [HX.out, decide_eq_true h3, decide_eq_true hv, decide_eq_true hN]; simp);clear h3 hv hN;refine wp_region_eq_lit (vs := [(.pointer (some ⟨w.heap.size, 0, none⟩)), (.int .i64 k), (.bool false), (.bool false), (.pointer (some ⟨w.heap.size, 2, none⟩)), (.agg #[.int .i64 v.kind, .int .i64 v.n, .string (str v.s)]), (.agg #[.int .i64 0, .int .i64 0, .string ⟨#[]⟩]), (.bool false), (.bool false), (.bool false), (.pointer (some ⟨w.heap.size, 5, none⟩)), (.slice A l.length c), (.int .i64 (l.length : Int)), (.pointer (some ⟨w.heap.size, 1, none⟩)), (.string (str s)), (.int .i64 (argsN s)), (.bool false), (.bool false), (.bool false)]) (by kernel_rfl) (by kernel_rfl) rfl rfl ?_ ?_
    ·refine ⟨?_, ?_, ?_, ?_, ?_, ?_, ?_, ?_, ?_, ?_, ?_, ?_, ?_, ?_, ?_, ?_, ?_, ?_, ?_, tv⟩
     all_goals intro ac wc hs hd hz hf hw K hK
     ·have e0 := EP 2 w.heap.size 0 (hf 2 rfl);clear hd hz hf hw;simp only [if_true, RL, e0];go_simp;exact hK _ _ rfl SR
     ·have e0 := EP 54 w.heap.size 0 (hw 0 rfl);have m0 := MC c0 hs tv;clear hd hz hf hw;simp only [if_true, RL, e0];go_simp;exact hK _ _ rfl SR
     ·have e0 := EV 55 (.int .i64 k) (hw 1 rfl);clear hd hz hf hw;simp only [if_true, RL, e0];go_simp;exact hK _ _ rfl SR
     ·have e0 := EV 56 (.bool false) (hw 2 rfl);clear hd hz hf hw;simp only [if_true, RL, e0];go_simp;exact hK _ _ rfl SR
     ·refine RW 3 57 false hz (hw 3 rfl) ?_;have e0 := EP 2 w.heap.size 0 (hf 2 rfl);clear hd hz hf hw;simp only [RL, e0];go_simp;exact hK _ _ rfl SR
     ·refine RW 3 57 false hz (hw 3 rfl) ?_;have e0 := EP 58 w.heap.size 2 (hw 4 rfl);have m0 := MC c2 hs tv;have m1 := MC c3 hs tv;have m2 := MC c4 hs tv;clear hd hz hf hw;simp only [RL, e0];go_simp;exact hK _ _ rfl SR
     ·refine RW 3 57 false hz (hw 3 rfl) ?_;clear hd hz hf hw;simp only [RL];go_simp;exact hK _ _ rfl SR
     ·refine RW 3 57 false hz (hw 3 rfl) ?_;have e0 := EV 59 (.agg #[.int .i64 v.kind, .int .i64 v.n, .string (str v.s)]) (hw 5 rfl);have e1 := EV 60 (.agg #[.int .i64 0, .int .i64 0, .string ⟨#[]⟩]) (hw 6 rfl);clear hd hz hf hw;simp only [RL, e0, e1];go_simp;exact hK _ _ rfl SR
     ·have e0 := EV 57 (.bool false) (hw 3 rfl);have e1 := EV 61 (.bool false) (hw 7 rfl);clear hd hz hf hw;simp only [if_true, RL, e0, e1];go_simp;exact hK _ _ rfl SR
     ·have e0 := EV 62 (.bool false) (hw 8 rfl);clear hd hz hf hw;simp only [if_true, RL, e0];go_simp;exact hK _ _ rfl SR
     ·refine RW 9 63 false hz (hw 9 rfl) ?_;have e0 := EP 2 w.heap.size 0 (hf 2 rfl);clear hd hz hf hw;simp only [RL, e0];go_simp;exact hK _ _ rfl SR
     ·refine RW 9 63 false hz (hw 9 rfl) ?_;have e0 := EP 64 w.heap.size 5 (hw 10 rfl);have m0 := MC c5 hs tv;clear hd hz hf hw;simp only [RL, e0];go_simp;exact hK _ _ rfl SR
     ·refine RW 9 63 false hz (hw 9 rfl) ?_;have e0 := EV 65 (.slice A l.length c) (hw 11 rfl);clear hd hz hf hw;simp only [RL, e0];go_simp;exact hK _ _ rfl SR
     ·refine RW 9 63 false hz (hw 9 rfl) ?_;have e0 := EP 2 w.heap.size 0 (hf 2 rfl);clear hd hz hf hw;simp only [RL, e0];go_simp;exact hK _ _ rfl SR
     ·refine RW 9 63 false hz (hw 9 rfl) ?_;have e0 := EP 67 w.heap.size 1 (hw 13 rfl);have m0 := MC c1 hs tv;clear hd hz hf hw;simp only [RL, e0];go_simp;exact hK _ _ rfl SR
     ·refine RW 9 63 false hz (hw 9 rfl) ?_;have e0 := EV 68 (.string (str s)) (hw 14 rfl);clear hd hz hf hw;simp only [RL, e0];go_simp;refine (args_any s wc).mono ?_;rintro e wd ⟨rfl, rfl⟩;exact hK _ _ rfl SR
     ·refine RW 9 63 false hz (hw 9 rfl) ?_;have e0 := EV 66 (.int .i64 (l.length : Int)) (hw 12 rfl);have e1 := EV 69 (.int .i64 (argsN s)) (hw 15 rfl);clear hd hz hf hw;simp only [RL, e0, e1];go_simp;exact hK _ _ rfl SR
     ·have e0 := EV 63 (.bool false) (hw 9 rfl);have e1 := EV 70 (.bool false) (hw 16 rfl);clear hd hz hf hw;simp only [if_true, RL, e0, e1];go_simp;exact hK _ _ rfl SR
     ·have e0 := EV 71 (.bool false) (hw 17 rfl);clear hd hz hf hw;simp only [if_true, RL, e0];go_simp;exact hK _ _ rfl SR
    ·intro wR hsR;simp only [putAll, Act.put, LP];have HS := LH (HS.out.trans hsR);have HL := LH (HL.out.keepAll hsR);have HM := LH (HM.out.keep hsR);have HROW := LH (HROW.out.keep hsR tv);have k5 := hsR.cell (p := ⟨w.heap.size, 5, none⟩) tv c5;clear c0 c1 c2 c3 c4 c5 hsR;go_wp2;go_loopw [75] (fun i wr => ∃ q : Nat, i = .int .i64 (q : Int) ∧ q ≤ l.length ∧ X = mayEs (l.drop q) (n - 1) ∧ Same (fun _ => True) wR wr) (fun i _ => l.length - (intOf i).toNat)
     case atStart => exact ⟨0, rfl, Nat.zero_le _, HX2.out, Same.refl _ _⟩
     case round =>
      obtain ⟨q, rfl, hq, hx, hS⟩ := hrel;have x1 : (0 : Int) ≤ (q : Int) := by omega
      have HS2 := LH hS;have HL2 := LH (HL.out.keepAll hS);have HM2 := LH (HM.out.keep hS);clear hS;by_cases hql : q < l.length
      ·have x2 : (q : Int) < (l.length : Int) := by omega
       obtain ⟨ad, uq, rfl, -, hlq, d0, d1, d2, d3, d4, d5⟩ := ExL.cells HL2.out hql;obtain ⟨Aq, cq, rfl, -, -⟩ := hlq.form;have hd : l.drop q = l[q] :: l.drop (q + 1) := List.drop_eq_getElem_cons hql;rw [hd, mayEs_cons] at hx;have HXq := LH hx;have hmem : l[q] ∈ l := List.getElem_mem hql;have hq0 := (Same.refl (fun _ => True) wr).alloc (.cells #[.int .i64 l[q].kind, .string (str l[q].s), .int .i64 l[q].v.kind, .int .i64 l[q].v.n, .string (str l[q].v.s), .slice Aq l[q].args.length cq] 34);have hi := ih l[q] hmem (n - 1) (.slice Aq l[q].args.length cq) (wr.alloc (.cells #[.int .i64 l[q].kind, .string (str l[q].s), .int .i64 l[q].v.kind, .int .i64 l[q].v.n, .string (str l[q].v.s), .slice Aq l[q].args.length cq] 34)) (by omega) ((ExR.iff _ _).2 (hlq.keepAll hq0)) (HM2.out.keep hq0);have hn2 : ((n - 1 : Nat) : Int) = (n : Int) - 1 := by omega
       rw [hn2] at hi;have HQ0 := LH hq0;clear hx hd hmem hlq hq0;go_wp2_with (go_at_call 58; refine stopAt ?_);unfold Hid;refine hi.mono ?_;rintro e w5 ⟨rfl, hS⟩;have HS5 := LH ((HS2.out.trans HQ0.out).trans hS);clear hS hi;cases hb : mayE l[q] (n - 1)
       ·have HB : Hid (false = X) := LH (by rw [HXq.out, hb]; rfl);clear hb;go_wp2;go_ret;exact ⟨ret_bool HB.out, HS.out.trans HS5.out⟩
       ·have HXn : Hid (X = mayEs (l.drop (q + 1)) (n - 1)) := LH (by rw [HXq.out, hb]; rfl);clear hb;go_wp2;go_roundw
        case rel => exact ⟨q + 1, by go_num, by omega, HXn.out, HS5.out⟩
        case measure => simp [intOf]; omega
      ·obtain rfl : q = l.length := by omega
       rw [List.drop_length] at hx;have HB : Hid (true = X) := LH (by rw [hx]; rfl);clear hx;go_wp2;go_ret;exact ⟨ret_bool HB.out, HS.out.trans HS2.out⟩
   ·have e4n : ((l.length : Int) != argsN s) = true := by simpa using hN
    have HB : Hid (false = X) := LH (by rw [HX.out, decide_eq_false hN]; simp);clear h3 hv hN;refine wp_region_eq_lit (vs := [(.pointer (some ⟨w.heap.size, 0, none⟩)), (.int .i64 k), (.bool false), (.bool false), (.pointer (some ⟨w.heap.size, 2, none⟩)), (.agg #[.int .i64 v.kind, .int .i64 v.n, .string (str v.s)]), (.agg #[.int .i64 0, .int .i64 0, .string ⟨#[]⟩]), (.bool false), (.bool false), (.bool false), (.pointer (some ⟨w.heap.size, 5, none⟩)), (.slice A l.length c), (.int .i64 (l.length : Int)), (.pointer (some ⟨w.heap.size, 1, none⟩)), (.string (str s)), (.int .i64 (argsN s)), (.bool true), (.bool true), (.bool true)]) (by kernel_rfl) (by kernel_rfl) rfl rfl ?_ ?_
    ·refine ⟨?_, ?_, ?_, ?_, ?_, ?_, ?_, ?_, ?_, ?_, ?_, ?_, ?_, ?_, ?_, ?_, ?_, ?_, ?_, tv⟩
     all_goals intro ac wc hs hd hz hf hw K hK
     ·have e0 := EP 2 w.heap.size 0 (hf 2 rfl);clear hd hz hf hw;simp only [if_true, RL, e0];go_simp;exact hK _ _ rfl SR
     ·have e0 := EP 54 w.heap.size 0 (hw 0 rfl);have m0 := MC c0 hs tv;clear hd hz hf hw;simp only [if_true, RL, e0];go_simp;exact hK _ _ rfl SR
     ·have e0 := EV 55 (.int .i64 k) (hw 1 rfl);clear hd hz hf hw;simp only [if_true, RL, e0];go_simp;exact hK _ _ rfl SR
     ·have e0 := EV 56 (.bool false) (hw 2 rfl);clear hd hz hf hw;simp only [if_true, RL, e0];go_simp;exact hK _ _ rfl SR
     ·refine RW 3 57 false hz (hw 3 rfl) ?_;have e0 := EP 2 w.heap.size 0 (hf 2 rfl);clear hd hz hf hw;simp only [RL, e0];go_simp;exact hK _ _ rfl SR
     ·refine RW 3 57 false hz (hw 3 rfl) ?_;have e0 := EP 58 w.heap.size 2 (hw 4 rfl);have m0 := MC c2 hs tv;have m1 := MC c3 hs tv;have m2 := MC c4 hs tv;clear hd hz hf hw;simp only [RL, e0];go_simp;exact hK _ _ rfl SR
     ·refine RW 3 57 false hz (hw 3 rfl) ?_;clear hd hz hf hw;simp only [RL];go_simp;exact hK _ _ rfl SR
     ·refine RW 3 57 false hz (hw 3 rfl) ?_;have e0 := EV 59 (.agg #[.int .i64 v.kind, .int .i64 v.n, .string (str v.s)]) (hw 5 rfl);have e1 := EV 60 (.agg #[.int .i64 0, .int .i64 0, .string ⟨#[]⟩]) (hw 6 rfl);clear hd hz hf hw;simp only [RL, e0, e1];go_simp;exact hK _ _ rfl SR
     ·have e0 := EV 57 (.bool false) (hw 3 rfl);have e1 := EV 61 (.bool false) (hw 7 rfl);clear hd hz hf hw;simp only [if_true, RL, e0, e1];go_simp;exact hK _ _ rfl SR
     ·have e0 := EV 62 (.bool false) (hw 8 rfl);clear hd hz hf hw;simp only [if_true, RL, e0];go_simp;exact hK _ _ rfl SR
     ·refine RW 9 63 false hz (hw 9 rfl) ?_;have e0 := EP 2 w.heap.size 0 (hf 2 rfl);clear hd hz hf hw;simp only [RL, e0];go_simp;exact hK _ _ rfl SR
     ·refine RW 9 63 false hz (hw 9 rfl) ?_;have e0 := EP 64 w.heap.size 5 (hw 10 rfl);have m0 := MC c5 hs tv;clear hd hz hf hw;simp only [RL, e0];go_simp;exact hK _ _ rfl SR
     ·refine RW 9 63 false hz (hw 9 rfl) ?_;have e0 := EV 65 (.slice A l.length c) (hw 11 rfl);clear hd hz hf hw;simp only [RL, e0];go_simp;exact hK _ _ rfl SR
     ·refine RW 9 63 false hz (hw 9 rfl) ?_;have e0 := EP 2 w.heap.size 0 (hf 2 rfl);clear hd hz hf hw;simp only [RL, e0];go_simp;exact hK _ _ rfl SR
     ·refine RW 9 63 false hz (hw 9 rfl) ?_;have e0 := EP 67 w.heap.size 1 (hw 13 rfl);have m0 := MC c1 hs tv;clear hd hz hf hw;simp only [RL, e0];go_simp;exact hK _ _ rfl SR
     ·refine RW 9 63 false hz (hw 9 rfl) ?_;have e0 := EV 68 (.string (str s)) (hw 14 rfl);clear hd hz hf hw;simp only [RL, e0];go_simp;refine (args_any s wc).mono ?_;rintro e wd ⟨rfl, rfl⟩;exact hK _ _ rfl SR
     ·refine RW 9 63 false hz (hw 9 rfl) ?_;have e0 := EV 66 (.int .i64 (l.length : Int)) (hw 12 rfl);have e1 := EV 69 (.int .i64 (argsN s)) (hw 15 rfl);clear hd hz hf hw;simp only [RL, e0, e1];go_simp;exact hK _ _ rfl SR
     ·have e0 := EV 63 (.bool false) (hw 9 rfl);have e1 := EV 70 (.bool true) (hw 16 rfl);clear hd hz hf hw;simp only [if_true, RL, e0, e1];go_simp;exact hK _ _ rfl SR
     ·have e0 := EV 71 (.bool true) (hw 17 rfl);clear hd hz hf hw;simp only [if_true, RL, e0];go_simp;exact hK _ _ rfl SR
    ·intro wR hsR;simp only [putAll, Act.put, LP];go_wp2;go_ret;exact ⟨ret_bool HB.out, (HS.out.trans hsR)⟩
  ·have hez : ∀ w, (binOp .neq 31 (.agg #[.int .i64 v.kind, .int .i64 v.n, .string (str v.s)]) (.agg #[.int .i64 0, .int .i64 0, .string ⟨#[]⟩])).run Tryz.prog w = .ok (.bool true) w := fun w => by
    have := neV v .zero w;rw [decide_eq_false hv] at this;exact this
   have HB : Hid (false = X) := LH (by rw [HX.out, decide_eq_false hv]; simp);clear h3 hv;refine wp_region_eq_lit (vs := [(.pointer (some ⟨w.heap.size, 0, none⟩)), (.int .i64 k), (.bool false), (.bool false), (.pointer (some ⟨w.heap.size, 2, none⟩)), (.agg #[.int .i64 v.kind, .int .i64 v.n, .string (str v.s)]), (.agg #[.int .i64 0, .int .i64 0, .string ⟨#[]⟩]), (.bool true), (.bool true), (.bool true), undef, undef, undef, undef, undef, undef, undef, (.bool true), (.bool true)]) (by kernel_rfl) (by kernel_rfl) rfl rfl ?_ ?_
   ·refine ⟨?_, ?_, ?_, ?_, ?_, ?_, ?_, ?_, ?_, ?_, ?_, ?_, ?_, ?_, ?_, ?_, ?_, ?_, ?_, tv⟩
    all_goals intro ac wc hs hd hz hf hw K hK
    ·have e0 := EP 2 w.heap.size 0 (hf 2 rfl);clear hd hz hf hw;simp only [if_true, RL, e0];go_simp;exact hK _ _ rfl SR
    ·have e0 := EP 54 w.heap.size 0 (hw 0 rfl);have m0 := MC c0 hs tv;clear hd hz hf hw;simp only [if_true, RL, e0];go_simp;exact hK _ _ rfl SR
    ·have e0 := EV 55 (.int .i64 k) (hw 1 rfl);clear hd hz hf hw;simp only [if_true, RL, e0];go_simp;exact hK _ _ rfl SR
    ·have e0 := EV 56 (.bool false) (hw 2 rfl);clear hd hz hf hw;simp only [if_true, RL, e0];go_simp;exact hK _ _ rfl SR
    ·refine RW 3 57 false hz (hw 3 rfl) ?_;have e0 := EP 2 w.heap.size 0 (hf 2 rfl);clear hd hz hf hw;simp only [RL, e0];go_simp;exact hK _ _ rfl SR
    ·refine RW 3 57 false hz (hw 3 rfl) ?_;have e0 := EP 58 w.heap.size 2 (hw 4 rfl);have m0 := MC c2 hs tv;have m1 := MC c3 hs tv;have m2 := MC c4 hs tv;clear hd hz hf hw;simp only [RL, e0];go_simp;exact hK _ _ rfl SR
    ·refine RW 3 57 false hz (hw 3 rfl) ?_;clear hd hz hf hw;simp only [RL];go_simp;exact hK _ _ rfl SR
    ·refine RW 3 57 false hz (hw 3 rfl) ?_;have e0 := EV 59 (.agg #[.int .i64 v.kind, .int .i64 v.n, .string (str v.s)]) (hw 5 rfl);have e1 := EV 60 (.agg #[.int .i64 0, .int .i64 0, .string ⟨#[]⟩]) (hw 6 rfl);clear hd hz hf hw;simp only [RL, e0, e1];go_simp;exact hK _ _ rfl SR
    ·have e0 := EV 57 (.bool false) (hw 3 rfl);have e1 := EV 61 (.bool true) (hw 7 rfl);clear hd hz hf hw;simp only [if_true, RL, e0, e1];go_simp;exact hK _ _ rfl SR
    ·have e0 := EV 62 (.bool true) (hw 8 rfl);clear hd hz hf hw;simp only [if_true, RL, e0];go_simp;exact hK _ _ rfl SR
    ·refine SW 9 63 true hz (hw 9 rfl) ?_;exact hK _ _ rfl SR
    ·refine SW 9 63 true hz (hw 9 rfl) ?_;exact hK _ _ rfl SR
    ·refine SW 9 63 true hz (hw 9 rfl) ?_;exact hK _ _ rfl SR
    ·refine SW 9 63 true hz (hw 9 rfl) ?_;exact hK _ _ rfl SR
    ·refine SW 9 63 true hz (hw 9 rfl) ?_;exact hK _ _ rfl SR
    ·refine SW 9 63 true hz (hw 9 rfl) ?_;exact hK _ _ rfl SR
    ·refine SW 9 63 true hz (hw 9 rfl) ?_;exact hK _ _ rfl SR
    ·have e0 := EV 63 (.bool true) (hw 9 rfl);have e1 := EV 70 undef (hw 16 rfl);clear hd hz hf hw;simp only [if_true, RL, e0, e1];go_simp;exact hK _ _ rfl SR
    ·have e0 := EV 71 (.bool true) (hw 17 rfl);clear hd hz hf hw;simp only [if_true, RL, e0];go_simp;exact hK _ _ rfl SR
   ·intro wR hsR;simp only [putAll, Act.put, LP];go_wp2;go_ret;exact ⟨ret_bool HB.out, (HS.out.trans hsR)⟩
 ·have e3n : (k != 3) = true := by simpa using h3
  have HB : Hid (false = X) := LH (by rw [HX.out, decide_eq_false h3]; simp);clear h3;refine wp_region_eq_lit (vs := [(.pointer (some ⟨w.heap.size, 0, none⟩)), (.int .i64 k), (.bool true), (.bool true), undef, undef, undef, undef, (.bool true), (.bool true), undef, undef, undef, undef, undef, undef, undef, (.bool true), (.bool true)]) (by kernel_rfl) (by kernel_rfl) rfl rfl ?_ ?_
  ·refine ⟨?_, ?_, ?_, ?_, ?_, ?_, ?_, ?_, ?_, ?_, ?_, ?_, ?_, ?_, ?_, ?_, ?_, ?_, ?_, tv⟩
   all_goals intro ac wc hs hd hz hf hw K hK
   ·have e0 := EP 2 w.heap.size 0 (hf 2 rfl);clear hd hz hf hw;simp only [if_true, RL, e0];go_simp;exact hK _ _ rfl SR
   ·have e0 := EP 54 w.heap.size 0 (hw 0 rfl);have m0 := MC c0 hs tv;clear hd hz hf hw;simp only [if_true, RL, e0];go_simp;exact hK _ _ rfl SR
   ·have e0 := EV 55 (.int .i64 k) (hw 1 rfl);clear hd hz hf hw;simp only [if_true, RL, e0];go_simp;exact hK _ _ rfl SR
   ·have e0 := EV 56 (.bool true) (hw 2 rfl);clear hd hz hf hw;simp only [if_true, RL, e0];go_simp;exact hK _ _ rfl SR
   ·refine SW 3 57 true hz (hw 3 rfl) ?_;exact hK _ _ rfl SR
   ·refine SW 3 57 true hz (hw 3 rfl) ?_;exact hK _ _ rfl SR
   ·refine SW 3 57 true hz (hw 3 rfl) ?_;exact hK _ _ rfl SR
   ·refine SW 3 57 true hz (hw 3 rfl) ?_;exact hK _ _ rfl SR
   ·have e0 := EV 57 (.bool true) (hw 3 rfl);have e1 := EV 61 undef (hw 7 rfl);clear hd hz hf hw;simp only [if_true, RL, e0, e1];go_simp;exact hK _ _ rfl SR
   ·have e0 := EV 62 (.bool true) (hw 8 rfl);clear hd hz hf hw;simp only [if_true, RL, e0];go_simp;exact hK _ _ rfl SR
   ·refine SW 9 63 true hz (hw 9 rfl) ?_;exact hK _ _ rfl SR
   ·refine SW 9 63 true hz (hw 9 rfl) ?_;exact hK _ _ rfl SR
   ·refine SW 9 63 true hz (hw 9 rfl) ?_;exact hK _ _ rfl SR
   ·refine SW 9 63 true hz (hw 9 rfl) ?_;exact hK _ _ rfl SR
   ·refine SW 9 63 true hz (hw 9 rfl) ?_;exact hK _ _ rfl SR
   ·refine SW 9 63 true hz (hw 9 rfl) ?_;exact hK _ _ rfl SR
   ·refine SW 9 63 true hz (hw 9 rfl) ?_;exact hK _ _ rfl SR
   ·have e0 := EV 63 (.bool true) (hw 9 rfl);have e1 := EV 70 undef (hw 16 rfl);clear hd hz hf hw;simp only [if_true, RL, e0, e1];go_simp;exact hK _ _ rfl SR
   ·have e0 := EV 71 (.bool true) (hw 17 rfl);clear hd hz hf hw;simp only [if_true, RL, e0];go_simp;exact hK _ _ rfl SR
  ·intro wR hsR;simp only [putAll, Act.put, LP];go_wp2;go_ret;exact ⟨ret_bool HB.out, (HS.out.trans hsR)⟩
section
variable {P : Program} {t e : TypeId} {n bytes : Nat} {z : Value} {α β : Type} {cs : β × α → List Value} {ok : World → (Nat → Prop) → β → α → Prop}
theorem run_appZ (T : SlT P t e n bytes z) (hf : ∀ x, (cs x).length = n) (hk : OkK ok) (w : World) (ty : TypeId) (B : Nat) (v : Value) (l : List α) (hown : OwnL cs n e ok w B v l) (u : β) (y : α) (h1 : ∀ c ∈ cs (u, y), c.oneCell' = true)
  (b : Nat) (hrow : Row w b e (cs (u, y))) (hy : ok w (fun q => B ≤ q ∧ some q ≠ v.ownBlock) u y) (hB : B ≤ w.heap.size) (hlen : l.length + 1 ≤ 1000001) (hb : bytes ≤ 1000) :
  ∃ v' w', (Builtin.append_ #[t, t] ty #[v, .slice (some ⟨b, 0, none⟩) 1 1]).run P w = .ok v' w' ∧ OwnL cs n e ok w' B v' (l ++ [y]) ∧ Same (fun k => some k ≠ v.ownBlock) w w' := by
 obtain ⟨us, k1, k2, k3⟩ := hown;have hzl : (us.zip l).length = l.length := by simp [k1]
 obtain ⟨i, hi, hz, h4, h5⟩ := info_parts T.info;have hbb : ((us.zip l).length + 1) * bytes ≤ 140737488355328 := by rw [hzl]; exact Nat.le_trans (Nat.mul_le_mul hlen hb) (by decide)
 obtain ⟨v', w', hrun, h2, h3, _, h6⟩ := run_append_own_at (P := P) w B t ty e i z n bytes T.und hi hz h4 h5 T.zs T.pos v (us.zip l).length ((us.zip l).flatMap cs) k2 ⟨b, 0, none⟩ 1 1 (cs (u, y)) (by rw [hf]; omega)
  (fun j c hc => by rw [add_none, Nat.zero_add, hrow.cell]; exact hc) h1 (by rw [hzl]; simp only [maxLen]; omega) hbb hB
 have hs3 : Same (fun k => some k ≠ v.ownBlock) w w' := Same.ofGrown h3
 have hne : ∀ k, k < w.heap.size → some k ≠ v.ownBlock → some k ≠ v'.ownBlock := by
  intro k hk h e';rcases h6 with h6 | h6
  ·exact h (e'.trans h6)
  ·rw [h6] at e'; injection e' with e'; omega
 refine ⟨v', w', hrun, ⟨us ++ [u], by simp [k1], ?_, fun i u' x' a b => ?_⟩, hs3⟩
 ·unfold OwnR;rw [List.zip_append k1, List.length_append, List.flatMap_append];simpa using h2
 ·have step : ∀ u'' x'', ok w (fun q => B ≤ q ∧ some q ≠ v.ownBlock) u'' x'' → ok w' (fun q => B ≤ q ∧ some q ≠ v'.ownBlock) u'' x'' := fun u'' x'' h =>
   hk.mono (hk.keep (hk.mono h (S' := fun q => (B ≤ q ∧ some q ≠ v.ownBlock) ∧ some q ≠ v'.ownBlock) fun k hk h => ⟨h, hne k hk h.2⟩) (hs3.mono fun k _ h => h.1.2)) fun k _ h => ⟨h.1.1, h.2⟩
  by_cases hi : i < l.length
  ·rw [List.getElem?_append_left (by omega)] at a b;exact step _ _ (k3 i u' x' a b)
  ·rw [List.getElem?_append_right (by omega)] at a b;rw [k1] at a;cases hj : i - l.length with
   | zero => rw [hj] at a b; simp at a b; subst a b; exact step _ _ hy
   | succ j => rw [hj] at a; simp at a
theorem step_appZ (T : SlT P t e n bytes z) (hf : ∀ x, (cs x).length = n) (hk : OkK ok) {w : World} {ops : Array Oper} {o : Oper} {a : Act} {K : Act → World → Prop} {Q : Exit → Act → World → Prop} {E : Prop} (hgd : o.guard = none) (s x : Operand)
  (ho : o.op = .call { callee := .builtin .append, args := #[s, x], argTypes := #[t, t] }) {B : Nat} {v : Value} {l : List α} (hown : OwnL cs n e ok w B v l) (u : β) (y : α) (h1 : ∀ c ∈ cs (u, y), c.oneCell' = true)
  {b : Nat} (hs : a.eval s = v) (hx : a.eval x = .slice (some ⟨b, 0, none⟩) 1 1) (hrow : Row w b e (cs (u, y))) (hy : ok w (fun q => B ≤ q ∧ some q ≠ v.ownBlock) u y) (hB : B ≤ w.heap.size) (hlen : l.length + 1 ≤ 1000001) (hb : bytes ≤ 1000)
  (h : ∀ v' w', OwnL cs n e ok w' B v' (l ++ [y]) → Same (fun k => some k ≠ v.ownBlock) w w' → K (a.put o.dst v') w') : if Region.wanted o (yielded ops a.tmps) = true then Oper.wp P o a w K Q else E := by
 obtain ⟨v', w', hrun, h2, h3⟩ := run_appZ T hf hk w o.type B v l hown u y h1 b hrow hy hB hlen hb;have hw : Region.wanted o (yielded ops a.tmps) = true := by simp [Region.wanted, hgd]
 rw [if_pos hw];unfold Oper.wp execOp;simp only [ho, resolve, invoke, builtin, Sem.run_bind, Sem.run_pure, Result.andThen_ok, List.map_toArray, List.map_cons, List.map_nil, hs, hx, hrun];exact h v' w' h2 h3
end
theorem OwnL.ge {α β : Type} {cs : β × α → List Value} {n : Nat} {e : TypeId} {ok : World → (Nat → Prop) → β → α → Prop} {w : World} {B : Nat} {v : Value} {l : List α} (h : OwnL cs n e ok w B v l) {k : Nat} (hk : some k = v.ownBlock) : B ≤ k ∧ k < w.heap.size := by
 obtain ⟨us, _, h2, _⟩ := h;exact OwnR.lt_ h2 hk.symm
abbrev TA (g G : Nat) (v : Value) : Nat → Prop := fun q => q ≠ g ∧ q ≠ G ∧ some q ≠ v.ownBlock
abbrev SA (G : Nat) (v : Value) : Nat → Prop := fun q => G + 1 ≤ q ∧ some q ≠ v.ownBlock
section
variable {α β : Type} {cs : β × α → List Value} {n : Nat} {e : TypeId} {ok : World → (Nat → Prop) → β → α → Prop}
theorem sa_ta {g G : Nat} {v : Value} (hg : g < G) {w w' : World} (h : Same (TA g G v) w w') : Same (SA G v) w w' := h.mono fun q _ h => ⟨by have := h.1; omega, by have := h.1; omega, h.2⟩
/-- The thing that was read, as a value. -/
def RuA (hk : OkK ok) (g G : Nat) (v : Value) (hg : g < G) (val : β → Value) (y : α) (xok : Prop) : SPT (TA g G v) :=
 ⟨fun vv w => ∃ u, vv = val u ∧ ok w (SA G v) u y ∧ xok, fun _ _ _ ⟨u, h1, h2, h3⟩ hs => ⟨u, h1, hk.keep h2 (sa_ta hg hs), h3⟩⟩
/-- It, in a row of one. -/
def BsA (cs : β × α → List Value) (e : TypeId) (hk : OkK ok) (g G : Nat) (v : Value) (hg : g < G) (y : α) (xok : Prop) : SPT (TA g G v) :=
 ⟨fun vv w => ∃ b u, vv = .slice (some ⟨b, 0, none⟩) 1 1 ∧ Row w b e (cs (u, y)) ∧ SA G v b ∧ ok w (SA G v) u y ∧ xok, fun _ _ _ ⟨b, u, h1, h2, h3, h4, h5⟩ hs => ⟨b, u, h1, h2.keep (sa_ta hg hs) h3, h3, hk.keep h4 (sa_ta hg hs), h5⟩⟩
/-- The longer slice's form. -/
def ApA (g G : Nat) (v : Value) (m : Nat) (xok : Prop) : SPT (TA g G v) := ⟨fun vv _ => (∃ A c, vv = .slice A m c) ∧ xok, fun _ _ _ h _ => h⟩
/-- What the world is like, by which of read (fc), append (fa) and store (fs) are done; U: the longer slice. -/
def AppS (cs : β × α → List Value) (n : Nat) (e : TypeId) (ok : World → (Nat → Prop) → β → α → Prop) (g t o G : Nat) (sty : TypeId) (v : Value) (l : List α) (y : α) (CS : Value → List Value) (lN l0 : List PT) (fc fa fs : Bool) (U : Value) (W : World) : Prop :=
 PS W g t (cond fc lN l0) o ∧ (fs = false → Row W G sty (CS v)) ∧ (fa = false → OwnL cs n e ok W (G + 1) v l) ∧ (fa = true → OwnL cs n e ok W (G + 1) U (l ++ [y])) ∧ (fs = true → Row W G sty (CS U))
variable {g t o G : Nat} {sty : TypeId} {v : Value} {l : List α} {y : α} {CS : Value → List Value} {lN l0 : List PT} {fc fa fs : Bool} {U : Value} {W W' : World}
theorem AppS.keep (hk : OkK ok) (h : AppS cs n e ok g t o G sty v l y CS lN l0 fc fa fs U W) (hs : Same (fun _ => True) W W') : AppS cs n e ok g t o G sty v l y CS lN l0 fc fa fs U W' :=
 ⟨h.1.keep hs, fun a => (h.2.1 a).keep hs tv, fun a => (h.2.2.1 a).keepAll hk hs, fun a => (h.2.2.2.1 a).keepAll hk hs, fun a => (h.2.2.2.2 a).keep hs tv⟩
theorem AppS.call (hk : OkK ok) (hg : g < G) (h : AppS cs n e ok g t o G sty v l y CS lN l0 false false false U W) (hp : PS W' g t lN o) (hs : Same (fun q => q ≠ g) W W') {U' : Value} : AppS cs n e ok g t o G sty v l y CS lN l0 true false false U' W' :=
 ⟨hp, fun a => (h.2.1 a).keep hs (by omega), fun a => (h.2.2.1 a).keep hk hs fun k h _ => by omega, fun a => (by cases a), fun a => (by cases a)⟩
theorem AppS.app (hl : g < G ∧ t < G ∧ 1 < G) (h : AppS cs n e ok g t o G sty v l y CS lN l0 true false false U W) {v' : Value} (ho : OwnL cs n e ok W' (G + 1) v' (l ++ [y])) (hs : Same (fun k => some k ≠ v.ownBlock) W W') : AppS cs n e ok g t o G sty v l y CS lN l0 true true false v' W' := by
 have hne : ∀ k, k ≤ G → some k ≠ v.ownBlock := fun k h1 h2 => by have := (h.2.2.1 rfl).ge h2; omega
 exact ⟨h.1.keepB hs (hne g (by omega)) (hne t (by omega)) (hne _ (by omega)), fun a => (h.2.1 a).keep hs (hne G (Nat.le_refl _)), fun a => (by cases a), fun _ => ho, fun a => (by cases a)⟩
theorem AppS.store (hk : OkK ok) (hl : g < G ∧ t < G ∧ 1 < G) (h : AppS cs n e ok g t o G sty v l y CS lN l0 true true false U W) (off : Nat) (hcs : (CS v).set off U = CS U) : AppS cs n e ok g t o G sty v l y CS lN l0 true true true U (W.setCell ⟨G, off, none⟩ U) ∧ Same (TA g G v) W (W.setCell ⟨G, off, none⟩ U) := by
 have hs : Same (fun q => q ≠ G) W (W.setCell ⟨G, off, none⟩ U) := SR.setCell (fun _ h => h rfl) _;exact ⟨⟨h.1.keepB hs (by omega) (by omega) (by omega), fun a => (by cases a), fun a => (by cases a), fun _ => (h.2.2.2.1 rfl).keep hk hs fun k h _ => by omega, fun _ => hcs ▸ (h.2.1 rfl).set_ off U⟩, hs.mono fun _ _ h => h.2.1⟩
end
def WhG (gs : Nat) (u : SU) (s : Stm) (w : World) (v : Value) : Prop := v = .tuple #[] ∧ ∃ uc, Row w gs 44 (stCs { u with cond := uc } s) ∧ ExR w (fun q => gs < q) uc s.cond
set_option maxRecDepth 100000 in
set_option maxHeartbeats 2000000 in
theorem where_any (g t gs : Nat) (u : SU) (s : Stm) (l : List PT) (w : World) (h : PS w g t l 0) (hr : Row w gs 44 (stCs u s)) (hg : g < gs ∧ t < gs ∧ 1 < gs) (hu : u.cond = .slice none 0 0) (hc : s.cond = .zero) (hf : s.filt = false) :
  Calls Tryz.prog 89 #[pV g, pV gs] w (DoQ (fun q => q ≠ g ∧ q ≠ gs) g t 0 (whereT s l) (WhG gs u) w) := by
 obtain ⟨X, hX⟩ : ∃ X, X = whereT s l := ⟨_, rfl⟩;rw [← hX];unfold whereT at hX;obtain ⟨kd, tb, its, rws, sts, ft, cd, od, dn, lm⟩ := s;obtain ⟨ui, ur, us, uc⟩ := u;simp only at hu hc hf;subst hu hc hf;simp only [stCs] at hr;have HX := LH hX;have HP := LH h;have HR := LH hr;have HS : Hid (Same (fun q => q ≠ g ∧ q ≠ gs) w w) := LH SR;have hgw := hr.lt;obtain ⟨g1, g2, g3⟩ := hg;clear h hr hX;go_enter Tryz.func89, Tryz.ntmps89;go_wp2_with (go_at_call 37; refine stopAt ?_);unfold Hid;refine (take_any g t l 0 wWHERE _ HP.out).mono ?_;rintro e w1 ⟨rfl, hp, hS⟩;have hSz := hS.size;have HR := LH (HR.out.keep hS (by omega));have HS := LH (HS.out.trans (hS.mono fun q _ h => h.1));clear hS;cases hq : isT wWHERE l
 ·rw [hq, if_neg (by simp)] at hp;have hX := HX.out;rw [hq, if_neg (by simp)] at hX;have HX := LH hX;have HP := LH hp;clear hX hq hp;have hr := HR.out;have c5 := hr.cell 5;simp only [LG] at c5;have f5 := hr.frozen 5;have zr := hr.lt;have hS5 : Same (fun q => q ≠ gs) w1 (w1.setCell ⟨gs, 5, none⟩ (.bool false)) := SR.setCell (fun _ h => h rfl) _;have hR5 : Row (w1.setCell ⟨gs, 5, none⟩ (.bool false)) gs 44 [.int .i64 kd, .string (str tb), ui, ur, us, .bool false, .int .i64 Ex.zero.kind, .string (str Ex.zero.s), .int .i64 Ex.zero.v.kind, .int .i64 Ex.zero.v.n, .string (str Ex.zero.v.s), .slice none 0 0, .string (str od), .bool dn, .int .i64 lm] := HR.out.set_ 5 (.bool false);have hP5 := HP.out.keepB hS5 (by omega) (by omega) (by omega);have hSS := HS.out.trans (hS5.mono fun q _ h => h.2);have HR := LH hR5;have HP := LH hP5;have HS := LH hSS;clear hS5 hR5 hP5 hSS hr;go_wp2;go_end0;rw [HX.out];exact ⟨_, rfl, ⟨rfl, .slice none 0 0, HR.out, ExR.lf _ _ _ _ _⟩, HP.out, HS.out⟩
 ·rw [hq, if_pos rfl] at hp;have hX := HX.out;rw [hq, if_pos rfl] at hX;have HX := LH hX;have HP := LH hp;clear hX hq hp;have hr := HR.out;have c5 := hr.cell 5;simp only [LG] at c5;have f5 := hr.frozen 5;have zr := hr.lt;have hs5 := size_set w1 ⟨gs, 5, none⟩ (.bool true);have hS5 : Same (fun q => q ≠ gs) w1 (w1.setCell ⟨gs, 5, none⟩ (.bool true)) := SR.setCell (fun _ h => h rfl) _;have hR5 : Row (w1.setCell ⟨gs, 5, none⟩ (.bool true)) gs 44 [.int .i64 kd, .string (str tb), ui, ur, us, .bool true, .int .i64 Ex.zero.kind, .string (str Ex.zero.s), .int .i64 Ex.zero.v.kind, .int .i64 Ex.zero.v.n, .string (str Ex.zero.v.s), .slice none 0 0, .string (str od), .bool dn, .int .i64 lm] := HR.out.set_ 5 (.bool true);have hP5 := HP.out.keepB hS5 (by omega) (by omega) (by omega);have hSS := HS.out.trans (hS5.mono fun q _ h => h.2);have HR := LH hR5;have HP := LH hP5;have HS := LH hSS;clear hS5 hR5 hP5 hSS hr;go_wp2_with (go_at_call 113; refine stopAt ?_);unfold Hid;revert hs5 HR HP HS;generalize w1.setCell _ _ = w2;intro hs5 HR HP HS;refine (expr_any g t l.tail w2 HP.out).mono ?_;intro e w3 hR_;cases hx : exprT l.tail with
  | error p =>
   rw [hx] at hR_;obtain ⟨rfl, hE⟩ := hR_
   have hq : DoQ (fun q => q ≠ g ∧ q ≠ gs) g t 0 X (WhG gs ⟨ui, ur, us, .slice none 0 0⟩) w (.panicked [{ v := failV p.1 p.2, recovered := false }]) w3 := by
    rw [HX.out, hx];exact ⟨rfl, HS.out.trans (hE.mono fun q _ h => h.1)⟩
   exact ⟨rfl, hq⟩
  | ok q =>
   obtain ⟨e, l2⟩ := q;rw [hx] at hR_;obtain ⟨v, rfl, ⟨ue, rfl, hex⟩, hp, hS⟩ := hR_;have hX := HX.out;rw [hx, thenT_ok] at hX;have HX := LH hX;clear hX hx;have hSz := hS.size;have HR := LH (HR.out.keep hS (by omega));have HS := LH (HS.out.trans (hS.mono fun q _ h => h.1));have HP := LH hp;clear hp hS;have HEX := LH hex;clear hex;obtain ⟨Au, cu, rfl, -, -⟩ := HEX.out.toL.form;generalize e.args.length = nu at *;have hr := HR.out;have c6 := hr.cell 6;have c7 := hr.cell 7;have c8 := hr.cell 8;have c9 := hr.cell 9;have c10 := hr.cell 10;have c11 := hr.cell 11;simp only [LG] at c6 c7 c8 c9 c10 c11;have f6 := hr.frozen 6;have f7 := hr.frozen 7;have f8 := hr.frozen 8;have f9 := hr.frozen 9;have f10 := hr.frozen 10;have f11 := hr.frozen 11;have zr2 := hr.lt;have hS6 : Same (fun q => q ≠ gs) w3 (setsW w3 gs 6 (exCs (.slice Au nu cu) e)) := Same.sets (fun h => h rfl) _ 6 SR;have hR6 := hr.sets (exCs (.slice Au nu cu) e) 6;have hP6 := HP.out.keepB hS6 (by omega) (by omega) (by omega);have hSS := HS.out.trans (hS6.mono fun q _ h => h.2);have hE6 := (HEX.out.keep (hS6.mono fun q _ (h : w2.heap.size ≤ q) => by omega)).mono (S' := fun q => gs < q) fun q _ (h : w2.heap.size ≤ q) => by omega
   have HR := LH hR6;have HP := LH hP6;have HS := LH hSS;have HE := LH hE6;clear hS6 hR6 hP6 hSS hE6 hr;go_wp2;go_end0;rw [HX.out];exact ⟨_, rfl, ⟨rfl, _, HR.out, HE.out⟩, HP.out, HS.out⟩
def okA {α : Type} (d : α) (x : PR α) : α := match x with
 | .ok (a, _) => a
 | .error _ => d
def leftA {α : Type} (x : PR α) : List PT := match x with
 | .ok (_, l) => l
 | .error _ => []
theorem asCs_len (p : Value × Asn) : (asCs p).length = 7 := rfl
theorem asOne {w : World} {S : Nat → Prop} {u : Value} {y : Asn} (h : ExR w S u y.e) : ∀ c ∈ asCs (u, y), c.oneCell' = true := by
 intro c hc;simp only [asCs, exCs, List.mem_cons, List.not_mem_nil, or_false] at hc;rcases hc with rfl | rfl | rfl | rfl | rfl | rfl | rfl <;> first | rfl | exact h.one
def AsG (gs : Nat) (u : SU) (s : Stm) (y : Asn) (w : World) (v : Value) : Prop := v = .tuple #[] ∧ ∃ z, Row w gs 44 (stCs { u with sets := z } s) ∧ OwnL asCs 7 65 asOk w (gs + 1) z (s.sets ++ [y])
set_option maxRecDepth 100000 in
set_option maxHeartbeats 4000000 in
theorem assign_any (g t gs : Nat) (u : SU) (s : Stm) (l : List PT) (w : World) (h : PS w g t l 0) (hr : Row w gs 44 (stCs u s)) (hg : g < gs ∧ t < gs ∧ 1 < gs) (ho : OwnL asCs 7 65 asOk w (gs + 1) u.sets s.sets) (hlen : s.sets.length ≤ 1000000) :
  Calls Tryz.prog 87 #[pV g, pV gs] w (DoQ (fun q => q ≠ g ∧ q < gs) g t 0 (assignT l) (AsG gs u s) w) := by
 obtain ⟨X, hX⟩ : ∃ X, X = assignT l := ⟨_, rfl⟩;rw [← hX];unfold assignT at hX;obtain ⟨A0, c0, hu, hA1, hA2⟩ := ho.form;obtain ⟨kd, tb, its, rws, sts, ft, cd, od, dn, lm⟩ := s;obtain ⟨ui, ur, us, uc⟩ := u;simp only at hu ho hlen;subst hu;simp only [stCs] at hr;have HX := LH hX;have HP := LH h;have HR := LH hr;have HO := LH ho;have HLG := LH hg;have HLEN := LH hlen;have HS : Hid (Same (fun q => q ≠ g ∧ q < gs) w w) := LH SR;have hgG := hg.1;have HGw := LH hr.lt;clear h hr hX ho hg hlen;go_enter Tryz.func87, Tryz.ntmps87;go_wp2_with (go_at_call 84; refine stopAt ?_);unfold Hid;refine (name_any g t l 0 _ HP.out).mono ?_;intro e w1 hR_;cases hx : nameT l with
 | error p =>
  rw [hx] at hR_;obtain ⟨rfl, hE⟩ := hR_
  have hq : DoQ (fun q => q ≠ g ∧ q < gs) g t 0 X (AsG gs ⟨ui, ur, .slice A0 sts.length c0, uc⟩ ⟨kd, tb, its, rws, sts, ft, cd, od, dn, lm⟩) w (.panicked [{ v := failV p.1 p.2, recovered := false }]) w1 := by
   rw [HX.out, hx];exact ⟨rfl, HS.out.trans (hE.mono fun q _ h => h.1)⟩
  exact ⟨rfl, hq⟩
 | ok q =>
  obtain ⟨nm, l1⟩ := q;rw [hx] at hR_;obtain ⟨v, rfl, rfl, hp, hS⟩ := hR_;have hX := HX.out;rw [hx, thenT_ok] at hX;have HX := LH hX;clear hX hx;have hSz := hS.size;have HR := LH (HR.out.keep hS (by omega));have HO := LH (HO.out.keep asK hS (fun q hq _ => by omega));have HS := LH (HS.out.trans (hS.mono fun q _ h => h.1));have HGw := LH (Nat.lt_of_lt_of_le HGw.out hS.size);have HP := LH hp;clear hp hS;go_wp2_with (go_at_call 40; refine stopAt ?_);unfold Hid;refine (must_at g t l1 0 [[61]] _ HP.out).mono ?_;intro e w2 hR_;cases hx : mustT [[61]] l1 with
  | error p =>
   rw [hx] at hR_;obtain ⟨rfl, hE⟩ := hR_
   have hq : DoQ (fun q => q ≠ g ∧ q < gs) g t 0 X (AsG gs ⟨ui, ur, .slice A0 sts.length c0, uc⟩ ⟨kd, tb, its, rws, sts, ft, cd, od, dn, lm⟩) w (.panicked [{ v := failV p.1 p.2, recovered := false }]) w2 := by
    rw [HX.out, hx];exact ⟨rfl, HS.out.trans (hE.mono fun q _ h => h.1)⟩
   exact ⟨rfl, hq⟩
  | ok q =>
   obtain ⟨⟨⟩, l2⟩ := q;rw [hx] at hR_;obtain ⟨v, rfl, rfl, hp, hS⟩ := hR_;have hX := HX.out;rw [hx, thenT_ok] at hX;have HX := LH hX;clear hX hx;have hSz := hS.size;have HR := LH (HR.out.keep hS (by omega));have HO := LH (HO.out.keep asK hS (fun q hq _ => by omega));have HS := LH (HS.out.trans (hS.mono fun q _ h => h.1));have HGw := LH (Nat.lt_of_lt_of_le HGw.out hS.size);have HP := LH hp;clear hp hS;go_upto_region 2 with (fail);obtain ⟨x, hxe⟩ : ∃ x, x = exprT l2 := ⟨_, rfl⟩;have Hxe := LH hxe;have hX := HX.out;rw [← hxe] at hX;have HXr : Hid (∀ p, x = .error p → X = .error p) := LH fun p hp => by rw [hX, hp]; rfl
   have HXk : Hid (x = .ok (okA .zero x, leftA x) → X = .ok (⟨nm, okA .zero x⟩, leftA x)) := LH fun hp => by
    rw [hX]
    conv => lhs; rw [hp]
    rfl
   have HS3 := HS;have hAS : ∀ U, AppS asCs 7 65 asOk g t 0 gs 44 (.slice A0 sts.length c0) sts (⟨nm, okA .zero x⟩ : Asn) (fun z => [.int .i64 kd, .string (str tb), ui, ur, z, .bool ft, .int .i64 cd.kind, .string (str cd.s), .int .i64 cd.v.kind, .int .i64 cd.v.n, .string (str cd.v.s), uc, .string (str od), .bool dn, .int .i64 lm]) (leftA x) l2 false false false U w2 := fun U => ⟨HP.out, fun _ => HR.out, fun _ => HO.out, fun h => (by cases h), fun h => (by cases h)⟩
   have HST : Hid (∀ U, AppS asCs 7 65 asOk g t 0 gs 44 (.slice A0 sts.length c0) sts (⟨nm, okA .zero x⟩ : Asn) (fun z => [.int .i64 kd, .string (str tb), ui, ur, z, .bool ft, .int .i64 cd.kind, .string (str cd.s), .int .i64 cd.v.kind, .int .i64 cd.v.n, .string (str cd.v.s), uc, .string (str od), .bool dn, .int .i64 lm]) (leftA x) l2 false false false U w2.drew) := LH fun U => (hAS U).keep asK SR.drew
   have HOW : Hid (∀ q, some q = Value.ownBlock (.slice A0 sts.length c0) → q < w2.heap.size) := LH fun q e => (HO.out.ge e).2
   clear hX hxe hAS;refine wp_region_full_lit (T := TA g (gs) (.slice A0 sts.length c0)) (L := [some (.eq (pV gs)), some (.eq (pV gs)), some (.eq (pV gs)), some (.eq (.pointer (some ⟨gs, 4, none⟩))), some (.eq (.slice A0 sts.length c0)), some (.eq (.string (str nm))), some (.eq (pV g)), some (RuA exK g (gs) (.slice A0 sts.length c0) hgG (fun u => exV u (okA Ex.zero x)) (okA Ex.zero x) (x = .ok (okA Ex.zero x, leftA x))), some (RuA asK g (gs) (.slice A0 sts.length c0) hgG (fun u => .agg #[.string (str nm), .int .i64 (okA Ex.zero x).kind, .string (str (okA Ex.zero x).s), .int .i64 (okA Ex.zero x).v.kind, .int .i64 (okA Ex.zero x).v.n, .string (str (okA Ex.zero x).v.s), u]) ((⟨nm, okA .zero x⟩ : Asn)) (x = .ok (okA Ex.zero x, leftA x))), some (BsA asCs 65 asK g (gs) (.slice A0 sts.length c0) hgG ((⟨nm, okA .zero x⟩ : Asn)) (x = .ok (okA Ex.zero x, leftA x))), some (ApA g (gs) (.slice A0 sts.length c0) ((sts).length + 1) (x = .ok (okA Ex.zero x, leftA x))), some (.eq (pV gs)), some (.eq (.pointer (some ⟨gs, 4, none⟩))), none]) (fun f U W => AppS asCs 7 65 asOk g t 0 (gs) 44 (.slice A0 sts.length c0) (sts) ((⟨nm, okA .zero x⟩ : Asn)) (fun z => [.int .i64 kd, .string (str tb), ui, ur, z, .bool ft, .int .i64 cd.kind, .string (str cd.s), .int .i64 cd.v.kind, .int .i64 cd.v.n, .string (str cd.v.s), uc, .string (str od), .bool dn, .int .i64 lm]) (leftA x) (l2) (f 7) (f 10) (f 13) (U 10) W) (by kernel_rfl) (by kernel_rfl) (by rfl) rfl ?_ ?_ ?_
   ·exact HST.out _
   ·refine ⟨?_, ?_, ?_, ?_, ?_, ?_, ?_, ?_, ?_, ?_, ?_, ?_, ?_, ?_, tv⟩
    all_goals (intro ac wc f hs hst hni hwt hdn hd hz hf hw K hK;generalize hU : valF _ ac = U at hst hK)
    ·have e0 := EV 1 (pV gs) (hf 1 rfl);clear hd hz hf hw;simp only [if_true, RL, e0];go_simp;exact hK _ _ (fun _ => rfl) SR hst
    ·have e0 := EV 1 (pV gs) (hf 1 rfl);clear hd hz hf hw;simp only [if_true, RL, e0];go_simp;exact hK _ _ (fun _ => rfl) SR hst
    ·have e0 := EV 11 (pV gs) (hw 1 rfl);clear hd hz hf hw;simp only [if_true, RL, e0];go_simp;exact hK _ _ (fun _ => rfl) SR hst
    ·have e0 := EV 12 (pV gs) (hw 2 rfl);clear hd hz hf hw;simp only [if_true, RL, e0];go_simp;exact hK _ _ (fun _ => rfl) SR hst
    ·have e0 := EP 13 gs 4 (hw 3 rfl)
     have h9 : f 13 = false := by
      cases h : f 13 with
      | false => rfl
      | true =>
       have q0 := hdn 13 10 rfl h;have q1 := hdn 10 4 rfl q0;rw [hni] at q1;cases q1
     have hr_ := hst.2.1 h9;have m_ := hr_.cell 4;simp only [LG] at m_;clear hr_;clear hd hz hf hw;simp only [if_true, RL, e0];go_simp;exact hK _ _ (fun _ => rfl) SR hst
    ·have e0 := EV 4 (.string (str nm)) (hf 4 rfl);clear hd hz hf hw;simp only [if_true, RL, e0];go_simp;exact hK _ _ (fun _ => rfl) SR hst
    ·have e0 := EV 0 (pV g) (hf 0 rfl);clear hd hz hf hw;simp only [if_true, RL, e0];go_simp;exact hK _ _ (fun _ => rfl) SR hst
    ·have e0 := EV 16 (pV g) (hw 6 rfl);have Hdf := LH (show ac.defers = [] from hd)
     have h13 : f 13 = false := by
      cases h : f 13 with
      | false => rfl
      | true =>
       have q0 := h;have q1 := hdn 13 10 rfl q0;have q2 := hdn 10 9 rfl q1;have q3 := hdn 9 8 rfl q2;have q4 := hdn 8 7 rfl q3;rw [hni] at q4;cases q4
     have h10 : f 10 = false := by
      cases h : f 10 with
      | false => rfl
      | true =>
       have q0 := h;have q1 := hdn 10 9 rfl q0;have q2 := hdn 9 8 rfl q1;have q3 := hdn 8 7 rfl q2;rw [hni] at q3;cases q3
     have hst2 : AppS asCs 7 65 asOk g t 0 (gs) 44 (.slice A0 sts.length c0) (sts) ((⟨nm, okA .zero x⟩ : Asn)) (fun z => [.int .i64 kd, .string (str tb), ui, ur, z, .bool ft, .int .i64 cd.kind, .string (str cd.s), .int .i64 cd.v.kind, .int .i64 cd.v.n, .string (str cd.v.s), uc, .string (str od), .bool dn, .int .i64 lm]) (leftA x) (l2) (false) (false) (false) (U 10) wc := by
      have h := hst;simp only [hni, h10, h13] at h;exact h
     have hps : PS wc g t (l2) 0 := hst2.1;have HST2 := LH hst2;clear hd hz hf hw;simp only [if_true, RL, e0];go_simp;refine (expr_any g t l2 wc hps).mono ?_;intro e wd h1;cases hx : exprT l2 with
     | error p =>
      rw [hx] at h1;obtain ⟨rfl, hSp⟩ := h1
      have hq : DoQ (fun q => q ≠ g ∧ q < gs) g t 0 X (AsG gs ⟨ui, ur, .slice A0 sts.length c0, uc⟩ ⟨kd, tb, its, rws, sts, ft, cd, od, dn, lm⟩) w (.panicked [{ v := failV p.1 p.2, recovered := false }]) wd := by
       rw [HXr.out p (Hxe.out.trans hx)];exact ⟨rfl, (HS3.out.trans' hs fun q hq h => ⟨h.1, by have := h.2; omega, fun e => by have := (HO.out.ge e).1; omega⟩).trans (hSp.mono fun q _ h => h.1)⟩
      exact ⟨Hdf.out, hq⟩
     | ok q =>
      rw [hx] at h1;obtain ⟨v', rfl, ⟨u2, rfl, hex⟩, hp2, hS2⟩ := h1;have hxx : x = .ok (okA Ex.zero x, leftA x) := by rw [Hxe.out, hx]; rfl
      have hx1 : okA Ex.zero x = q.1 := by rw [Hxe.out, hx]; rfl
      have hx2 : leftA x = q.2 := by rw [Hxe.out, hx]; rfl
      have hzc := hs.size;have hown := HST2.out.2.2.1 rfl;rw [← hx1] at hex;rw [← hx2] at hp2;refine hK _ _ (fun _ => ⟨u2, by rw [hx1], exK.mono hex fun k hk (h : wc.heap.size ≤ k) => ⟨by have := HGw.out; omega, fun e => by have := (hown.ge e).2; omega⟩, hxx⟩) (hS2.mono fun k hk h => h.1) ?_;show AppS asCs 7 65 asOk g t 0 (gs) 44 (.slice A0 sts.length c0) (sts) ((⟨nm, okA .zero x⟩ : Asn)) (fun z => [.int .i64 kd, .string (str tb), ui, ur, z, .bool ft, .int .i64 cd.kind, .string (str cd.s), .int .i64 cd.v.kind, .int .i64 cd.v.n, .string (str cd.v.s), uc, .string (str od), .bool dn, .int .i64 lm]) (leftA x) (l2) (true) (f 10) (f 13) (U 10) wd;rw [h10, h13];exact AppS.call asK hgG HST2.out hp2 hS2
    ·have e0 := EV 15 (.string (str nm)) (hw 5 rfl);have p1 : (RuA exK g (gs) (.slice A0 sts.length c0) hgG (fun u => exV u (okA Ex.zero x)) (okA Ex.zero x) (x = .ok (okA Ex.zero x, leftA x)) : SPT (TA g (gs) (.slice A0 sts.length c0))).p (ac.eval (.tmp 17)) wc := hw 7 rfl;obtain ⟨u1, e1⟩ : ∃ u, ac.eval (.tmp 17) = u := ⟨_, rfl⟩;have v1 : U 7 = u1 := by rw [← hU]; exact e1
     rw [e1] at p1;obtain ⟨u2, rfl, hex2, hxx⟩ := p1;obtain ⟨A2, c2, rfl, -, -⟩ := (show ExR _ _ _ _ from hex2).toL.form;have Hxx := LH hxx;have Hex2 := LH hex2;clear hxx hex2;clear hd hz hf hw;simp only [if_true, RL, e0, e1];go_simp;exact hK _ _ (fun _ => ⟨_, rfl, Hex2.out, Hxx.out⟩) SR hst
    ·have p0 : (RuA asK g (gs) (.slice A0 sts.length c0) hgG (fun u => .agg #[.string (str nm), .int .i64 (okA Ex.zero x).kind, .string (str (okA Ex.zero x).s), .int .i64 (okA Ex.zero x).v.kind, .int .i64 (okA Ex.zero x).v.n, .string (str (okA Ex.zero x).v.s), u]) ((⟨nm, okA .zero x⟩ : Asn)) (x = .ok (okA Ex.zero x, leftA x)) : SPT (TA g (gs) (.slice A0 sts.length c0))).p (ac.eval (.tmp 18)) wc := hw 8 rfl;obtain ⟨u0, e0⟩ : ∃ u, ac.eval (.tmp 18) = u := ⟨_, rfl⟩;have v0 : U 8 = u0 := by rw [← hU]; exact e0
     rw [e0] at p0;obtain ⟨u2, rfl, hex2, hxx⟩ := p0;obtain ⟨A2, c2, rfl, -, -⟩ := (show ExR _ _ _ _ from hex2).toL.form;have Hxx := LH hxx;have Hex2 := LH hex2;clear hxx hex2;clear hd hz hf hw;simp only [if_true, RL, e0];go_simp;have hzc := hs.size;have hsA := (Same.refl (fun _ => True) wc).alloc (.cells (asCs (.slice A2 (okA Ex.zero x).args.length c2, (⟨nm, okA .zero x⟩ : Asn))).toArray 65);have hsb : SA (gs) (.slice A0 sts.length c0) wc.heap.size := ⟨by have := HGw.out; omega, fun e => by have := HOW.out _ e; omega⟩;exact hK _ _ (fun _ => ⟨_, _, rfl, Row.new wc 65 (asCs (.slice A2 (okA Ex.zero x).args.length c2, (⟨nm, okA .zero x⟩ : Asn))), hsb, asK.keep Hex2.out (hsA.mono fun _ _ _ => tv), Hxx.out⟩) (SR.alloc _) (AppS.keep asK hst (SR.alloc _))
    ·have e0 := EV 14 (.slice A0 sts.length c0) (hw 4 rfl);have p1 : (BsA asCs 65 asK g (gs) (.slice A0 sts.length c0) hgG ((⟨nm, okA .zero x⟩ : Asn)) (x = .ok (okA Ex.zero x, leftA x)) : SPT (TA g (gs) (.slice A0 sts.length c0))).p (ac.eval (.tmp 19)) wc := hw 9 rfl;obtain ⟨u1, e1⟩ : ∃ u, ac.eval (.tmp 19) = u := ⟨_, rfl⟩;have v1 : U 9 = u1 := by rw [← hU]; exact e1
     rw [e1] at p1;have d9 : f 9 = true := hwt 9 rfl;have d8 : f 8 = true := hdn 9 8 rfl d9;have d7 : f 7 = true := hdn 8 7 rfl d8
     have h13 : f 13 = false := by
      cases h : f 13 with
      | false => rfl
      | true =>
       have q0 := h;have q1 := hdn 13 10 rfl q0;rw [hni] at q1;cases q1
     obtain ⟨b, u2, rfl, hrow, hb, hex2, hxx⟩ := p1
     have hst2 : AppS asCs 7 65 asOk g t 0 (gs) 44 (.slice A0 sts.length c0) (sts) ((⟨nm, okA .zero x⟩ : Asn)) (fun z => [.int .i64 kd, .string (str tb), ui, ur, z, .bool ft, .int .i64 cd.kind, .string (str cd.s), .int .i64 cd.v.kind, .int .i64 cd.v.n, .string (str cd.v.s), uc, .string (str od), .bool dn, .int .i64 lm]) (leftA x) (l2) (true) (false) (false) (U 10) wc := by
      have h := hst;simp only [hni, d7, h13] at h;exact h
     have hzc := hs.size;refine step_appZ TAs asCs_len asK rfl (.tmp 14) (.tmp 19) rfl (hst2.2.2.1 rfl) u2 ((⟨nm, okA .zero x⟩ : Asn)) (asOne hex2) e0 e1 hrow hex2 (by have := HGw.out; omega) (by have := HLEN.out; omega) (by omega) ?_;intro v' wd hO hS2;have hK2 := hK v' wd (fun _ => ⟨by obtain ⟨A2, c2, h2, -, -⟩ := hO.form; exact ⟨A2, c2, by rw [h2, List.length_append]; rfl⟩, hxx⟩) (hS2.mono fun q _ h => h.2.2);refine hK2 ?_;show AppS asCs 7 65 asOk g t 0 (gs) 44 (.slice A0 sts.length c0) (sts) ((⟨nm, okA .zero x⟩ : Asn)) (fun z => [.int .i64 kd, .string (str tb), ui, ur, z, .bool ft, .int .i64 cd.kind, .string (str cd.s), .int .i64 cd.v.kind, .int .i64 cd.v.n, .string (str cd.v.s), uc, .string (str od), .bool dn, .int .i64 lm]) (leftA x) (l2) (f 7) (true) (f 13) (v') wd;rw [d7, h13];exact AppS.app HLG.out hst2 hO hS2
    ·have e0 := EV 10 (pV gs) (hw 0 rfl);clear hd hz hf hw;simp only [if_true, RL, e0];go_simp;exact hK _ _ (fun _ => rfl) SR hst
    ·have e0 := EV 21 (pV gs) (hw 11 rfl);clear hd hz hf hw;simp only [if_true, RL, e0];go_simp;exact hK _ _ (fun _ => rfl) SR hst
    ·have p0 : (ApA g (gs) (.slice A0 sts.length c0) ((sts).length + 1) (x = .ok (okA Ex.zero x, leftA x)) : SPT (TA g (gs) (.slice A0 sts.length c0))).p (ac.eval (.tmp 20)) wc := hw 10 rfl;obtain ⟨u0, e0⟩ : ∃ u, ac.eval (.tmp 20) = u := ⟨_, rfl⟩;have v0 : U 10 = u0 := by rw [← hU]; exact e0
     rw [e0] at p0;have e1 := EP 22 gs 4 (hw 12 rfl);have d10 : f 10 = true := hwt 10 rfl;have d9 : f 9 = true := hdn 10 9 rfl d10;have d8 : f 8 = true := hdn 9 8 rfl d9;have d7 : f 7 = true := hdn 8 7 rfl d8;obtain ⟨⟨A2, c2, rfl⟩, hxx⟩ := p0;have Hxx := LH hxx
     have hst2 : AppS asCs 7 65 asOk g t 0 (gs) 44 (.slice A0 sts.length c0) (sts) ((⟨nm, okA .zero x⟩ : Asn)) (fun z => [.int .i64 kd, .string (str tb), ui, ur, z, .bool ft, .int .i64 cd.kind, .string (str cd.s), .int .i64 cd.v.kind, .int .i64 cd.v.n, .string (str cd.v.s), uc, .string (str od), .bool dn, .int .i64 lm]) (leftA x) (l2) (true) (true) (false) (.slice A2 ((sts).length + 1) c2) wc := by
      have h := hst;rw [d7, d10, hni, v0] at h;exact h
     have hr_ := hst2.2.1 rfl;have m_ := hr_.cell 4;simp only [LG] at m_;have n_ := hr_.frozen 4;have zr := hr_.lt;have HST2 := LH hst2;clear hr_ hst2 hxx;clear hd hz hf hw;simp only [if_true, RL, e0, e1];go_simp;obtain ⟨k1, k2⟩ := AppS.store asK HLG.out HST2.out 4 rfl;refine hK undef _ (fun h => (by cases h)) k2 ?_;show AppS asCs 7 65 asOk g t 0 (gs) 44 (.slice A0 sts.length c0) (sts) ((⟨nm, okA .zero x⟩ : Asn)) (fun z => [.int .i64 kd, .string (str tb), ui, ur, z, .bool ft, .int .i64 cd.kind, .string (str cd.s), .int .i64 cd.v.kind, .int .i64 cd.v.n, .string (str cd.v.s), uc, .string (str od), .bool dn, .int .i64 lm]) (leftA x) (l2) (f 7) (f 10) (true) (U 10) _;rw [d7, d10, v0];exact k1
   ·intro vs wR f hvl hvp hsR hst hfR;obtain ⟨z0, z1, z2, z3, z4, z5, z6, z7, z8, z9, z10, z11, z12, z13, rfl⟩ := LN14 hvl
    ·obtain rfl : z0 = (pV gs) := hvp 0 (by simp);obtain rfl : z1 = (pV gs) := hvp 1 (by simp);obtain rfl : z2 = (pV gs) := hvp 2 (by simp);obtain rfl : z3 = (.pointer (some ⟨gs, 4, none⟩)) := hvp 3 (by simp);obtain rfl : z4 = (.slice A0 sts.length c0) := hvp 4 (by simp);obtain rfl : z5 = (.string (str nm)) := hvp 5 (by simp);obtain rfl : z6 = (pV g) := hvp 6 (by simp);have hru : (RuA exK g (gs) (.slice A0 sts.length c0) hgG (fun u => exV u (okA Ex.zero x)) (okA Ex.zero x) (x = .ok (okA Ex.zero x, leftA x)) : SPT (TA g (gs) (.slice A0 sts.length c0))).p z7 wR := hvp 7 (by simp);have hrb : (RuA asK g (gs) (.slice A0 sts.length c0) hgG (fun u => .agg #[.string (str nm), .int .i64 (okA Ex.zero x).kind, .string (str (okA Ex.zero x).s), .int .i64 (okA Ex.zero x).v.kind, .int .i64 (okA Ex.zero x).v.n, .string (str (okA Ex.zero x).v.s), u]) ((⟨nm, okA .zero x⟩ : Asn)) (x = .ok (okA Ex.zero x, leftA x)) : SPT (TA g (gs) (.slice A0 sts.length c0))).p z8 wR := hvp 8 (by simp);have hsb : (BsA asCs 65 asK g (gs) (.slice A0 sts.length c0) hgG ((⟨nm, okA .zero x⟩ : Asn)) (x = .ok (okA Ex.zero x, leftA x)) : SPT (TA g (gs) (.slice A0 sts.length c0))).p z9 wR := hvp 9 (by simp);have hap : (ApA g (gs) (.slice A0 sts.length c0) ((sts).length + 1) (x = .ok (okA Ex.zero x, leftA x)) : SPT (TA g (gs) (.slice A0 sts.length c0))).p z10 wR := hvp 10 (by simp);obtain rfl : z11 = (pV gs) := hvp 11 (by simp);obtain rfl : z12 = (.pointer (some ⟨gs, 4, none⟩)) := hvp 12 (by simp);clear hvl hvp;simp only [putAll, Act.put, LP];clear hru hrb hsb;have hst := hst;rw [hfR 7, hfR 10, hfR 13] at hst;obtain ⟨⟨A9, c9, rfl⟩, hxx⟩ := hap;obtain ⟨k1, -, -, k2, k3⟩ := hst;have hp : PS wR g t (leftA x) 0 := k1;have HP9 := LH hp;have HO9 := LH (k2 rfl);have HR9 := LH (k3 rfl);have HSe := LH (HS.out.trans' hsR fun q hq h => ⟨h.1, by have := h.2; omega, fun e => by have := (HO.out.ge e).1; have := h.2; omega⟩);have HXe := LH (HXk.out hxx);clear k1 k2 k3 hp hxx;go_wp2;go_end0;rw [HXe.out];exact ⟨_, rfl, ⟨rfl, _, HR9.out, HO9.out⟩, HP9.out, HSe.out⟩
theorem then_assoc {α β γ : Type} (x : PR α) (f : α → List PT → PR β) (h : β → List PT → PR γ) : thenT (thenT x f) h = thenT x fun a l => thenT (f a l) h := by
 cases x <;> rfl
theorem rwCs_len (p : Value × List Ex) : (rwCs p).length = 1 := rfl
theorem exCsP_len (p : Value × Ex) : (exCsP p).length = 6 := rfl
theorem exOne {w : World} {S : Nat → Prop} {u : Value} {y : Ex} (h : ExR w S u y) : ∀ c ∈ exCsP (u, y), c.oneCell' = true := by
 intro c hc;simp only [exCsP, exCs, List.mem_cons, List.not_mem_nil, or_false] at hc;rcases hc with rfl | rfl | rfl | rfl | rfl | rfl <;> first | rfl | exact h.one
theorem is_eq {n : Nat} {k : Nat} (h : n = k) : ((n : Int) == (k : Int)) = true := by subst h; simp
def RwG (gs : Nat) (u : SU) (s : Stm) (y : List Ex) (w : World) (v : Value) : Prop := v = .tuple #[] ∧ ∃ z, Row w gs 44 (stCs { u with rows := z } s) ∧ OwnL rwCs 1 32 rwOk w (gs + 1) z (s.rows ++ [y])
set_option maxRecDepth 100000 in
set_option maxHeartbeats 4000000 in
theorem row_any (g t gs : Nat) (u : SU) (s : Stm) (l : List PT) (w : World) (h : PS w g t l 0) (hr : Row w gs 44 (stCs u s)) (hg : g < gs ∧ t < gs ∧ 1 < gs) (ho : OwnL rwCs 1 32 rwOk w (gs + 1) u.rows s.rows) (hlen : s.rows.length ≤ 1000000) :
  Calls Tryz.prog 85 #[pV g, pV gs] w (DoQ (fun q => q ≠ g ∧ q < gs) g t 0 (rowT l) (RwG gs u s) w) := by
 obtain ⟨X, hX⟩ : ∃ X, X = rowT l := ⟨_, rfl⟩;rw [← hX];unfold rowT at hX;obtain ⟨A0, c0, hu, hA1, hA2⟩ := ho.form;obtain ⟨kd, tb, its, rws, sts, ft, cd, od, dn, lm⟩ := s;obtain ⟨ui, ur, us, uc⟩ := u;simp only at hu ho hlen;subst hu;simp only [stCs] at hr;have HX := LH hX;have HP := LH h;have HR := LH hr;have HO := LH ho;have HLG := LH hg;have HLEN := LH hlen;have HS : Hid (Same (fun q => q ≠ g) w w) := LH SR;have hgG := hg.1;have HGw := LH hr.lt;have HSH := LH h.short;unfold maxLen at hA2;clear h hr hX ho hg hlen;go_enter Tryz.func85, Tryz.ntmps85;have HGw0 := HGw;go_wp2_with (go_at_call 40; refine stopAt ?_);unfold Hid;refine (must_at g t l 0 [[40]] _ HP.out).mono ?_;intro e w1 hR_;cases hx : mustT [[40]] l with
 | error p =>
  rw [hx] at hR_;obtain ⟨rfl, hE⟩ := hR_
  have hq : DoQ (fun q => q ≠ g ∧ q < gs) g t 0 X (RwG gs ⟨ui, .slice A0 rws.length c0, us, uc⟩ ⟨kd, tb, its, rws, sts, ft, cd, od, dn, lm⟩) w (.panicked [{ v := failV p.1 p.2, recovered := false }]) w1 := by
   rw [HX.out, hx];exact ⟨rfl, (HS.out.trans hE).mono fun q _ h => h.1⟩
  exact ⟨rfl, hq⟩
 | ok q =>
  obtain ⟨⟨⟩, l1⟩ := q;rw [hx] at hR_;obtain ⟨v, rfl, rfl, hp, hS⟩ := hR_;have hX := HX.out;rw [hx, thenT_ok] at hX;have HX := LH hX;clear hX hx;have hSz := hS.size;have HS := LH (HS.out.trans hS);have HP := LH hp;clear hp hS;have hX := HX.out;unfold listT at hX;rw [then_assoc] at hX;have HX := LH hX;clear hX;go_wp2_with (go_at_call 113; refine stopAt ?_);unfold Hid;refine (expr_any g t l1 _ HP.out).mono ?_;intro e w2 hR_;cases hx : exprT l1 with
  | error p =>
   rw [hx] at hR_;obtain ⟨rfl, hE⟩ := hR_
   have hq : DoQ (fun q => q ≠ g ∧ q < gs) g t 0 X (RwG gs ⟨ui, .slice A0 rws.length c0, us, uc⟩ ⟨kd, tb, its, rws, sts, ft, cd, od, dn, lm⟩) w (.panicked [{ v := failV p.1 p.2, recovered := false }]) w2 := by
    rw [HX.out, hx];exact ⟨rfl, (HS.out.trans hE).mono fun q _ h => h.1⟩
   exact ⟨rfl, hq⟩
  | ok q =>
   obtain ⟨e, l2⟩ := q;rw [hx] at hR_;obtain ⟨v, rfl, ⟨u0, rfl, hex⟩, hp, hS⟩ := hR_;have hX := HX.out;rw [hx, thenT_ok] at hX;have HX := LH hX;clear hX hx;have hSz := hS.size;have HS := LH (HS.out.trans hS);have HP := LH hp;clear hp hS;have HEX := LH hex;clear hex;obtain ⟨Au, cu, rfl, -, -⟩ := HEX.out.toL.form;have hO1 := OwnL.one (B := w.heap.size) (e := 34) exCsP_len exK (HEX.out.mono (S' := fun q => w.heap.size ≤ q) fun q _ (h : w1.heap.size ≤ q) => by omega) (by omega);have hS2 := (Same.refl (fun _ => True) w2).alloc (.cells (exCsP (.slice Au e.args.length cu, e)).toArray 34);have hp2 := HP.out.keep hS2;have hS2 := HS.out.trans (hS2.mono (S' := fun q => q ≠ g) fun _ _ _ => tv);have HO1 := LH hO1;have HP := LH hp2;have HS := LH hS2;have hX := HX.out;have HX : Hid (X = thenT (sepT (isT [44]) exprT leadsT 6 l2.length [e] l2) (fun r l2 => thenT (mustT [[41]] l2) fun _ l3 => (.ok (r, l3) : PR (List Ex)))) := LH hX;have HL3 : Hid (g < w.heap.size ∧ t < w.heap.size ∧ 1 < w.heap.size) := LH (by have := HLG.out; have := HGw0.out; omega);have HSH2 := LH HP.out.short;clear hO1 hS2 hp2 hX;go_wp2;simp only [exCsP, exCs] at HO1 HP HS;revert HO1 HP HS;generalize w2.alloc _ = wl;intro HO1 HP HS;go_loopw [4] (fun v wr => ∃ (k : Nat) (acc : List Ex) (l' : List PT), X = thenT (sepT (isT [44]) exprT leadsT 6 k acc l') (fun r l2 => thenT (mustT [[41]] l2) fun _ l3 => (.ok (r, l3) : PR (List Ex))) ∧ l'.length ≤ k ∧ acc.length + l'.length ≤ 1000001 ∧ OwnL exCsP 6 34 ExR wr w.heap.size v acc ∧ PS wr g t l' 0 ∧ Same (fun q => q ≠ g) w wr) (fun _ wr => tokLen wr g)
   case atStart => exact ⟨_, [e], l2, HX.out, Nat.le_refl _, by have := HSH2.out; simp; omega, HO1.out, HP.out, HS.out⟩
   case round =>
    clear HX HP HO1 HS;obtain ⟨k, acc, l', hX, hlk, hal, hov, hp, hS⟩ := hrel;obtain ⟨Av, cv, rfl, hv1, hv2⟩ := hov.form;have hpos := hp.end_.pos;obtain ⟨k', rfl⟩ : ∃ k', k = k' + 1 := ⟨k - 1, by omega⟩;unfold sepT at hX;unfold maxLen at hv2;have HX := LH hX;have HLK := LH hlk;have HAL := LH hal;have HOV := LH hov;have HP := LH hp;have HPr := HP;have HS := LH hS;have hl3' := HL3.out;clear hX hlk hal hov hp hS;go_wp2_with (go_at_call 37; refine stopAt ?_);unfold Hid;refine (take_any g t l' 0 [44] _ HP.out).mono ?_;rintro e w3 ⟨rfl, hp, hS⟩;have hSz := hS.size;have HS := LH (HS.out.trans hS);have HOV := LH (HOV.out.keep exK hS fun q hq _ => by omega);clear hS;cases hq : isT [44] l'
    ·rw [hq, if_neg (by simp)] at hp;have hX := HX.out;rw [hq, if_neg (by simp)] at hX;have HX := LH hX;have HP := LH hp;have HQ := LH hq;clear hX hq hp;have hX := HX.out;rw [thenT_ok] at hX;have HX := LH hX;clear hX;go_wp2_with (go_at_call 40; refine stopAt ?_);unfold Hid;refine (must_at g t l' 0 [[41]] _ HP.out).mono ?_;intro e wf hR_;cases hx : mustT [[41]] l' with
     | error p =>
      rw [hx] at hR_;obtain ⟨rfl, hE⟩ := hR_
      have hq : DoQ (fun q => q ≠ g ∧ q < gs) g t 0 X (RwG gs ⟨ui, .slice A0 rws.length c0, us, uc⟩ ⟨kd, tb, its, rws, sts, ft, cd, od, dn, lm⟩) w (.panicked [{ v := failV p.1 p.2, recovered := false }]) wf := by
       rw [HX.out, hx];exact ⟨rfl, (HS.out.trans hE).mono fun q _ h => h.1⟩
      exact ⟨rfl, hq⟩
     | ok q =>
      obtain ⟨⟨⟩, l3⟩ := q;rw [hx] at hR_;obtain ⟨v, rfl, rfl, hp, hS⟩ := hR_;have hX := HX.out;rw [hx, thenT_ok] at hX;have HX := LH hX;clear hX hx;have hSz := hS.size;have HS := LH (HS.out.trans hS);have HOV := LH (HOV.out.keep exK hS fun q hq _ => by omega);have HP := LH hp;clear hp hS;have hr := HR.out.keep HS.out (by omega);have hown := HO.out.keep rwK HS.out fun q hq _ => by omega
      have hls := ls_exL.1 (HOV.out.ls exK exCsP_len);have hHB : w.heap.size ≤ wf.heap.size := HS.out.size;have c3 := hr.cell 3;simp only [LG] at c3;have HR2 := LH hr;have HO2 := LH hown;have HL2 := LH hls;clear hr hown hls;go_wp2_with (at_builtin; refine stopAt ?_);unfold Hid;refine wpList_appZ TRw rwCs_len rwK rfl (.tmp 34) (.tmp 36) rfl (.slice Av acc.length cv) acc (by intro c hc; simp only [rwCs, List.mem_cons, List.not_mem_nil, or_false] at hc; subst hc; rfl) rfl rfl rfl HO2.out (ExL.mono HL2.out fun q _ (h : w.heap.size ≤ q) => ⟨by have := HGw.out; omega, fun e => by have := (HO.out.ge e).2; omega⟩) (by have := HGw.out; omega) (by have := HLEN.out; simp only [maxLen]; omega) (by have := HLEN.out; omega) ?_;intro z wz hOz hSz2 hbz;obtain ⟨Az, cz, rfl, hz1, hz2⟩ := hOz.form;rw [List.length_append] at hOz ⊢;have hne : ∀ q, q ≤ gs → some q ≠ Value.ownBlock (.slice A0 rws.length c0) := fun q hq e => by have := (HO.out.ge e).1; omega
      have hr := HR2.out.keep hSz2 (hne gs (Nat.le_refl _));have c3 := hr.cell 3;simp only [LG] at c3;have f3 := hr.frozen 3;have zr := hr.lt;have hlg := HLG.out;have hp := HP.out.keepB hSz2 (hne g (by omega)) (hne t (by omega)) (hne _ (by omega));have hS := (HS.out.mono (S' := fun q => q ≠ g ∧ q < gs) fun q _ h => h.1).trans (hSz2.mono fun q _ h => hne q (by omega));have hs3 : Same (fun q => q ≠ gs) wz (wz.setCell ⟨gs, 3, none⟩ (.slice Az (rws.length + 1) cz)) := SR.setCell (fun _ h => h rfl) _;have hr3 := hr.set_ 3 (.slice Az (rws.length + 1) cz);have hp3 := hp.keepB hs3 (by omega) (by omega) (by omega);have hO3 := hOz.keep rwK hs3 fun q hq _ => by omega
      have hS3 := hS.trans (hs3.mono fun q _ h => by have := h.2; omega);have HR3 := LH hr3;have HP3 := LH hp3;have HO3 := LH hO3;have HS3 := LH hS3;clear hr hp hS hs3 hr3 hp3 hO3 hS3 hOz hSz2 hlg;go_wp2;go_end0;rw [HX.out];exact ⟨_, rfl, ⟨rfl, _, HR3.out, HO3.out⟩, HP3.out, HS3.out⟩
    ·rw [hq, if_pos rfl] at hp;have hX := HX.out;rw [hq, if_pos rfl] at hX;have HX := LH hX;have HP := LH hp;have HQ := LH hq;clear hX hq hp;have htl := HPr.out.end_.tail (isT_kind HQ.out);have HTL := LH htl;clear htl;go_wp2_with (go_at_call 112; refine stopAt ?_);unfold Hid;refine (leads_any g t l'.tail 0 w3 HP.out).mono ?_;rintro e w4 ⟨rfl, hS⟩;have hp := HP.out.keep hS;have hS := hS.mono (S' := fun q => q ≠ g) fun _ _ _ => tv
     have hSz := hS.size;have HS := LH (HS.out.trans hS);have HOV := LH (HOV.out.keep exK hS fun q hq _ => by omega);have HP := LH hp;clear hp hS;cases hb : leadsT l'.tail
     ·have hX := HX.out;rw [hb, Bool.false_and, if_neg (by simp)] at hX;rw [then_assoc] at hX;have HX := LH hX;clear hX hb;go_wp2_with (go_at_call 113; refine stopAt ?_);unfold Hid;refine (expr_any g t l'.tail w4 HP.out).mono ?_;intro e w5 hR_;have hgB5 : w.heap.size ≤ w4.heap.size := HS.out.size;have HOV5 := HOV;cases hx : exprT l'.tail with
      | error p =>
       rw [hx] at hR_;obtain ⟨rfl, hE⟩ := hR_
       have hq : DoQ (fun q => q ≠ g ∧ q < gs) g t 0 X (RwG gs ⟨ui, .slice A0 rws.length c0, us, uc⟩ ⟨kd, tb, its, rws, sts, ft, cd, od, dn, lm⟩) w (.panicked [{ v := failV p.1 p.2, recovered := false }]) w5 := by
        rw [HX.out, hx];exact ⟨rfl, (HS.out.trans hE).mono fun q _ h => h.1⟩
       exact ⟨rfl, hq⟩
      | ok q =>
       obtain ⟨e2, l4⟩ := q;have hxk := hx;rw [hx] at hR_;obtain ⟨v, rfl, ⟨_, rfl, hex⟩, hp, hS⟩ := hR_;have hX := HX.out;rw [hx, thenT_ok] at hX;have HX := LH hX;clear hX hx;have hSz := hS.size;have HS := LH (HS.out.trans hS);have HOV := LH (HOV.out.keep exK hS fun q hq _ => by omega);have HP := LH hp;clear hp hS;have HEX := LH hex;clear hex;obtain ⟨Au2, cu2, rfl, -, -⟩ := HEX.out.toL.form;have hfit := expr_fit l'.tail HTL.out.1 e2 l4 hxk;have hlen2 : acc.length + 1 + l4.length ≤ 1000001 := by have := hfit.2; have := HTL.out.2; have := HAL.out; omega
       have hlk : l4.length ≤ k' := by have := hfit.2; have := HTL.out.2; have := HLK.out; omega
       have hms : l4.length < l'.length := by have := hfit.2; have := HTL.out.2; omega
       have hHB : w.heap.size ≤ w5.heap.size := HS.out.size;have hgB : w.heap.size ≤ w4.heap.size := hgB5;clear hfit;go_wp2_with (at_builtin; refine stopAt ?_);unfold Hid;refine wpList_appZ TEx exCsP_len exK rfl (.tmp 22) (.tmp 25) rfl (.slice Au2 e2.args.length cu2) e2 (exOne HEX.out) rfl rfl rfl HOV.out (HEX.out.mono fun q _ (h : w4.heap.size ≤ q) => ⟨by omega, fun e => by have := (HOV5.out.ge e).2; omega⟩) (by omega) (by simp only [maxLen]; omega) (by omega) ?_;intro z wz hOz hSz2 hbz;obtain ⟨Az, cz, rfl, hz1, hz2⟩ := hOz.form;rw [List.length_append] at hOz ⊢;have hne : ∀ q, q < w.heap.size → some q ≠ Value.ownBlock (.slice Av acc.length cv) := fun q hq e => by have := (HOV.out.ge e).1; omega
       have hl3 := HL3.out;have hp := HP.out.keepB hSz2 (hne g (by omega)) (hne t (by omega)) (hne _ (by omega));have hS := HS.out.trans' hSz2 fun q hq _ => hne q hq
       have HP := LH hp;have HS := LH hS;have HOZ := LH hOz;have hla := HP.out.len;have hlb := HPr.out.len;clear hp hS hOz hSz2 hl3;go_wp2;go_roundw
       case rel => exact ⟨k', acc ++ [e2], l4, HX.out, hlk, by rw [List.length_append]; exact hlen2, HOZ.out, HP.out, HS.out⟩
       case measure => omega
     ·by_cases h6 : acc.length = 6
      ·have e6 : ((acc.length : Int) == 6) = true := is_eq h6;have hX := HX.out;rw [hb, Bool.true_and, if_pos (by simpa using h6)] at hX;have HX := LH hX;clear hX hb h6;go_wp2_with (go_at_call 39; refine stopAt ?_);unfold Hid;refine (wrong_any g t l'.tail 0 3 w4 HP.out).mono ?_;rintro e w5 ⟨rfl, hE⟩
       have hq : DoQ (fun q => q ≠ g ∧ q < gs) g t 0 X (RwG gs ⟨ui, .slice A0 rws.length c0, us, uc⟩ ⟨kd, tb, its, rws, sts, ft, cd, od, dn, lm⟩) w (.panicked [{ v := failV (hdT l'.tail).1 3, recovered := false }]) w5 := by
        rw [HX.out];exact ⟨rfl, (HS.out.trans hE).mono fun q _ h => h.1⟩
       exact ⟨rfl, hq⟩
      ·have e6 : ((acc.length : Int) == 6) = false := no_k h6;have hX := HX.out;rw [hb, Bool.true_and, if_neg (by simpa using h6)] at hX;rw [then_assoc] at hX;have HX := LH hX;clear hX hb h6;go_wp2_with (go_at_call 113; refine stopAt ?_);unfold Hid;refine (expr_any g t l'.tail w4 HP.out).mono ?_;intro e w5 hR_;have hgB5 : w.heap.size ≤ w4.heap.size := HS.out.size;have HOV5 := HOV;cases hx : exprT l'.tail with
       | error p =>
        rw [hx] at hR_;obtain ⟨rfl, hE⟩ := hR_
        have hq : DoQ (fun q => q ≠ g ∧ q < gs) g t 0 X (RwG gs ⟨ui, .slice A0 rws.length c0, us, uc⟩ ⟨kd, tb, its, rws, sts, ft, cd, od, dn, lm⟩) w (.panicked [{ v := failV p.1 p.2, recovered := false }]) w5 := by
         rw [HX.out, hx];exact ⟨rfl, (HS.out.trans hE).mono fun q _ h => h.1⟩
        exact ⟨rfl, hq⟩
       | ok q =>
        obtain ⟨e2, l4⟩ := q;have hxk := hx;rw [hx] at hR_;obtain ⟨v, rfl, ⟨_, rfl, hex⟩, hp, hS⟩ := hR_;have hX := HX.out;rw [hx, thenT_ok] at hX;have HX := LH hX;clear hX hx;have hSz := hS.size;have HS := LH (HS.out.trans hS);have HOV := LH (HOV.out.keep exK hS fun q hq _ => by omega);have HP := LH hp;clear hp hS;have HEX := LH hex;clear hex;obtain ⟨Au2, cu2, rfl, -, -⟩ := HEX.out.toL.form;have hfit := expr_fit l'.tail HTL.out.1 e2 l4 hxk;have hlen2 : acc.length + 1 + l4.length ≤ 1000001 := by have := hfit.2; have := HTL.out.2; have := HAL.out; omega
        have hlk : l4.length ≤ k' := by have := hfit.2; have := HTL.out.2; have := HLK.out; omega
        have hms : l4.length < l'.length := by have := hfit.2; have := HTL.out.2; omega
        have hHB : w.heap.size ≤ w5.heap.size := HS.out.size;have hgB : w.heap.size ≤ w4.heap.size := hgB5;clear hfit;go_wp2_with (at_builtin; refine stopAt ?_);unfold Hid;refine wpList_appZ TEx exCsP_len exK rfl (.tmp 22) (.tmp 25) rfl (.slice Au2 e2.args.length cu2) e2 (exOne HEX.out) rfl rfl rfl HOV.out (HEX.out.mono fun q _ (h : w4.heap.size ≤ q) => ⟨by omega, fun e => by have := (HOV5.out.ge e).2; omega⟩) (by omega) (by simp only [maxLen]; omega) (by omega) ?_;intro z wz hOz hSz2 hbz;obtain ⟨Az, cz, rfl, hz1, hz2⟩ := hOz.form;rw [List.length_append] at hOz ⊢;have hne : ∀ q, q < w.heap.size → some q ≠ Value.ownBlock (.slice Av acc.length cv) := fun q hq e => by have := (HOV.out.ge e).1; omega
        have hl3 := HL3.out;have hp := HP.out.keepB hSz2 (hne g (by omega)) (hne t (by omega)) (hne _ (by omega));have hS := HS.out.trans' hSz2 fun q hq _ => hne q hq
        have HP := LH hp;have HS := LH hS;have HOZ := LH hOz;have hla := HP.out.len;have hlb := HPr.out.len;clear hp hS hOz hSz2 hl3;go_wp2;go_roundw
        case rel => exact ⟨k', acc ++ [e2], l4, HX.out, hlk, by rw [List.length_append]; exact hlen2, HOZ.out, HP.out, HS.out⟩
        case measure => omega
abbrev itV (u : Value) (x : Itm) : Value := .agg #[.int .i64 x.kind, .int .i64 x.e.kind, .string (str x.e.s), .int .i64 x.e.v.kind, .int .i64 x.e.v.n, .string (str x.e.v.s), u]
def zit : List Value := [.int .i64 0, .int .i64 0, .string ⟨#[]⟩, .int .i64 0, .int .i64 0, .string ⟨#[]⟩, .slice none 0 0]
def ItG (B : Nat) (x : Itm) (w : World) (v : Value) : Prop := ∃ u, v = itV u x ∧ ExR w (fun q => B ≤ q) u x.e
theorem item_results {W : World} {k : Nat} {u : Value} {x : Itm} (R : Row W k 63 (itCs (u, x))) {tmps : Array Value} (h1 : tmps.getD 2 undef = .pointer (some ⟨k, 0, none⟩)) :
  (results Tryz.f111 tmps).run Tryz.prog W = .ok (itV u x) W := by
 have d0 : W.cell? ⟨k, 0, none⟩ = some (.int .i64 x.kind) := R.cell 0;have d1 : W.cell? ⟨k, 1, none⟩ = some (.int .i64 x.e.kind) := R.cell 1;have d2 : W.cell? ⟨k, 2, none⟩ = some (.string (str x.e.s)) := R.cell 2;have d3 : W.cell? ⟨k, 3, none⟩ = some (.int .i64 x.e.v.kind) := R.cell 3;have d4 : W.cell? ⟨k, 4, none⟩ = some (.int .i64 x.e.v.n) := R.cell 4;have d5 : W.cell? ⟨k, 5, none⟩ = some (.string (str x.e.v.s)) := R.cell 5;have d6 : W.cell? ⟨k, 6, none⟩ = some (u) := R.cell 6;simp at h1;simp [results, Tryz.results111, h1, go_sem, d0, d1, d2, d3, d4, d5, d6]
set_option maxRecDepth 100000 in
set_option maxHeartbeats 4000000 in
theorem item_any (g t : Nat) (l : List PT) (w : World) (h : PS w g t l 0) : Calls Tryz.prog 111 #[pV g] w (DoP g t 0 (itemT l) (ItG w.heap.size) w) := by
 obtain ⟨X, hX⟩ : ∃ X, X = itemT l := ⟨_, rfl⟩;rw [← hX];unfold itemT at hX;have HX := LH hX;have HL3 := LH h.lt3;have hS0 := (Same.refl (fun _ => True) w).alloc (.cells zit.toArray 63);have HRR := LH (Row.new w 63 zit);have hz0 : (w.alloc (.cells zit.toArray 63)).heap.size = w.heap.size + 1 := by simp
 have HP := LH (h.keep hS0);have HS := LH (hS0.mono (S' := fun q => q ≠ g) fun _ _ _ => tv);obtain ⟨l3, l4, l5⟩ := h.lt3;clear h hX hS0;go_enter Tryz.func111, Tryz.ntmps111;go_upto_region 1 with (fail);simp only [zit] at HRR HP HS hz0;revert HRR HP HS hz0;generalize w.alloc _ = w0;intro HRR hz0 HP HS;go_wp2_with (go_at_call 37; refine stopAt ?_);unfold Hid;refine (take_any g t l 0 wCOUNT _ HP.out).mono ?_;rintro e w1 ⟨rfl, hp, hS⟩;have hSz := hS.size;have HRR := LH (HRR.out.keep hS (by omega));have HS := LH (HS.out.trans hS);clear hS;cases hq : isT wCOUNT l
 ·rw [hq, if_neg (by simp)] at hp;have hX := HX.out;rw [hq, if_neg (by simp)] at hX;have HX := LH hX;have HP := LH hp;clear hX hq hp;go_wp2_with (go_at_call 37; refine stopAt ?_);unfold Hid;refine (take_any g t l 0 wSUM _ HP.out).mono ?_;rintro e w2 ⟨rfl, hp, hS⟩;have hSz := hS.size;have HRR := LH (HRR.out.keep hS (by omega));have HS := LH (HS.out.trans hS);clear hS;cases hq : isT wSUM l
  ·rw [hq, if_neg (by simp)] at hp;have hX := HX.out;rw [hq, if_neg (by simp)] at hX;have HX := LH hX;have HP := LH hp;clear hX hq hp;go_wp2_with (go_at_call 113; refine stopAt ?_);unfold Hid;refine (expr_any g t l w2 HP.out).mono ?_;intro e w3 hR_;cases hx : exprT l with
   | error p =>
    rw [hx] at hR_;obtain ⟨rfl, hE⟩ := hR_
    have hq : DoP g t 0 X (ItG w.heap.size) w (.panicked [{ v := failV p.1 p.2, recovered := false }]) w3 := by
     rw [HX.out, hx];exact ⟨rfl, HS.out.trans hE⟩
    exact ⟨rfl, hq⟩
   | ok q =>
    obtain ⟨e, l1⟩ := q;rw [hx] at hR_;obtain ⟨v, rfl, ⟨ue, rfl, hex⟩, hp, hS⟩ := hR_;have hX := HX.out;rw [hx, thenT_ok] at hX;have HX := LH hX;clear hX hx;have hSz := hS.size;have HRR := LH (HRR.out.keep hS (by omega));have HS := LH (HS.out.trans hS);have HP := LH hp;clear hp hS;have HEX := LH hex;clear hex;obtain ⟨Au, cu, rfl, -, -⟩ := HEX.out.toL.form;generalize e.args.length = nu at *;have hB2 : w.heap.size + 1 ≤ w2.heap.size := by omega
    have rr := HRR.out;obtain ⟨q0, q1, q2, q3, q4, q5, q6⟩ := CN7 rr;obtain ⟨x0, x1, x2, x3, x4, x5, x6⟩ := FN7 rr;have zr := rr.lt;have hHB : w.heap.size < w3.heap.size := rr.lt;obtain ⟨hD, hB, hC⟩ := fin_cs (cs := itCs (.slice Au nu cu, (⟨2, e⟩ : Itm))) HP.out l3 l4 l5 rr;have HE9 : Hid (ExR (setsW w3 w.heap.size 0 (itCs (.slice Au nu cu, (⟨2, e⟩ : Itm)))) (fun q => w.heap.size ≤ q) (.slice Au nu cu) ((⟨2, e⟩ : Itm)).e) := LH ((HEX.out.keep (hC.mono fun q _ (h : w2.heap.size ≤ q) => by omega)).mono fun q _ (h : w2.heap.size ≤ q) => by omega);have HD := LH hD;have HB := LH hB;have HS9 : Hid (Same (fun q => q ≠ g) w (setsW w3 w.heap.size 0 (itCs (.slice Au nu cu, (⟨2, e⟩ : Itm))))) := LH (Same.sets' (Nat.le_refl _) _ 0 HS.out);clear rr hD hB hC;go_wp2;refine bodyPost_ret (item_results (u := .slice Au nu cu) (x := (⟨2, e⟩ : Itm)) (show Row _ _ _ (itCs (.slice Au nu cu, (⟨2, e⟩ : Itm))) from HD.out) rfl) rfl ?_;rw [HX.out];exact ⟨_, rfl, ⟨_, rfl, HE9.out⟩, HB.out, HS9.out⟩
  ·rw [hq, if_pos rfl] at hp;have hX := HX.out;rw [hq, if_pos rfl] at hX;have HX := LH hX;have HP := LH hp;clear hX hq hp;go_wp2_with (go_at_call 40; refine stopAt ?_);unfold Hid;refine (must_at g t l.tail 0 [[40]] _ HP.out).mono ?_;intro e w3 hR_;cases hx : mustT [[40]] l.tail with
   | error p =>
    rw [hx] at hR_;obtain ⟨rfl, hE⟩ := hR_
    have hq : DoP g t 0 X (ItG w.heap.size) w (.panicked [{ v := failV p.1 p.2, recovered := false }]) w3 := by
     rw [HX.out, hx];exact ⟨rfl, HS.out.trans hE⟩
    exact ⟨rfl, hq⟩
   | ok q =>
    obtain ⟨⟨⟩, l1⟩ := q;rw [hx] at hR_;obtain ⟨v, rfl, rfl, hp, hS⟩ := hR_;have hX := HX.out;rw [hx, thenT_ok] at hX;have HX := LH hX;clear hX hx;have hSz := hS.size;have HRR := LH (HRR.out.keep hS (by omega));have HS := LH (HS.out.trans hS);have HP := LH hp;clear hp hS;go_wp2_with (go_at_call 113; refine stopAt ?_);unfold Hid;refine (expr_any g t l1 _ HP.out).mono ?_;intro e w4 hR_;cases hx : exprT l1 with
    | error p =>
     rw [hx] at hR_;obtain ⟨rfl, hE⟩ := hR_
     have hq : DoP g t 0 X (ItG w.heap.size) w (.panicked [{ v := failV p.1 p.2, recovered := false }]) w4 := by
      rw [HX.out, hx];exact ⟨rfl, HS.out.trans hE⟩
     exact ⟨rfl, hq⟩
    | ok q =>
     obtain ⟨e, l2⟩ := q;rw [hx] at hR_;obtain ⟨v, rfl, ⟨u, rfl, hex⟩, hp, hS⟩ := hR_;have hX := HX.out;rw [hx, thenT_ok] at hX;have HX := LH hX;clear hX hx;have hSz := hS.size;have HRR := LH (HRR.out.keep hS (by omega));have HS := LH (HS.out.trans hS);have HP := LH hp;clear hp hS;have HEX := LH hex;clear hex;obtain ⟨Au, cu, rfl, -, -⟩ := HEX.out.toL.form;generalize e.args.length = nu at *;have hB2 : w.heap.size + 1 ≤ w3.heap.size := by omega
     have hB3 : w3.heap.size ≤ w4.heap.size := by omega
     have hre := Row.new w4 34 (exCs (.slice Au nu cu) e);have hSe := (Same.refl (fun _ => True) w4).alloc (.cells (exCs (.slice Au nu cu) e).toArray 34);have hze : (w4.alloc (.cells (exCs (.slice Au nu cu) e).toArray 34)).heap.size = w4.heap.size + 1 := by simp
     have hpe := HP.out.keep hSe;have hee := HEX.out.keepAll hSe;have hSe := hSe.mono (S' := fun q => q ≠ g) fun _ _ _ => tv
     have hrr := HRR.out.keep hSe (by omega);have hss := HS.out.trans hSe;have HRE := LH hre;have HP := LH hpe;have HEX := LH hee;have HRR := LH hrr;have HS := LH hss;clear hre hpe hee hSe hrr hss;go_wp2_with (go_at_call 40; refine stopAt ?_);unfold Hid;simp only [exCs] at HRE HP HEX HRR HS hze;revert HRE HP HEX HRR HS hze;generalize w4.alloc _ = w5;intro hze HRE HP HEX HRR HS

     rw [← hze]
     refine (must_at g t l2 0 [[41]] _ HP.out).mono ?_
     intro e w6 hR_
     cases hx : mustT [[41]] l2 with
     | error p =>
      rw [hx] at hR_
      obtain ⟨rfl, hE⟩ := hR_
      have hq : DoP g t 0 X (ItG w.heap.size) w (.panicked [{ v := failV p.1 p.2, recovered := false }]) w6 := by
       rw [HX.out, hx];exact ⟨rfl, HS.out.trans hE⟩
      exact ⟨rfl, hq⟩
     | ok q =>
      obtain ⟨⟨⟩, l6⟩ := q;rw [hx] at hR_;obtain ⟨v, rfl, rfl, hp, hS⟩ := hR_;have hX := HX.out;rw [hx, thenT_ok] at hX;have HX := LH hX;clear hX hx;have hSz := hS.size;have HRR := LH (HRR.out.keep hS (by omega));have HS := LH (HS.out.trans hS);have HEX := LH (HEX.out.keep (hS.mono fun q _ (h : w3.heap.size ≤ q) => by omega));have HRE := LH (HRE.out.keep hS (by omega));have HP := LH hp;clear hp hS;have hyr := HRE.out;have y0 := hyr.cell 0;have y1 := hyr.cell 1;have y2 := hyr.cell 2;have y3 := hyr.cell 3;have y4 := hyr.cell 4;have y5 := hyr.cell 5;simp only [LG] at y0 y1 y2 y3 y4 y5;clear hyr;have rr := HRR.out;obtain ⟨q0, q1, q2, q3, q4, q5, q6⟩ := CN7 rr;obtain ⟨x0, x1, x2, x3, x4, x5, x6⟩ := FN7 rr;have zr := rr.lt;have hHB : w.heap.size < w6.heap.size := rr.lt;obtain ⟨hD, hB, hC⟩ := fin_cs (cs := itCs (.slice Au nu cu, (⟨4, e⟩ : Itm))) HP.out l3 l4 l5 rr;have HE9 : Hid (ExR (setsW w6 w.heap.size 0 (itCs (.slice Au nu cu, (⟨4, e⟩ : Itm)))) (fun q => w.heap.size ≤ q) (.slice Au nu cu) ((⟨4, e⟩ : Itm)).e) := LH ((HEX.out.keep (hC.mono fun q _ (h : w3.heap.size ≤ q) => by omega)).mono fun q _ (h : w3.heap.size ≤ q) => by omega);have HD := LH hD;have HB := LH hB;have HS9 : Hid (Same (fun q => q ≠ g) w (setsW w6 w.heap.size 0 (itCs (.slice Au nu cu, (⟨4, e⟩ : Itm))))) := LH (Same.sets' (Nat.le_refl _) _ 0 HS.out);clear rr hD hB hC;go_wp2;refine bodyPost_ret (item_results (u := .slice Au nu cu) (x := (⟨4, e⟩ : Itm)) (show Row _ _ _ (itCs (.slice Au nu cu, (⟨4, e⟩ : Itm))) from HD.out) rfl) rfl ?_;rw [HX.out];exact ⟨_, rfl, ⟨_, rfl, HE9.out⟩, HB.out, HS9.out⟩
 ·rw [hq, if_pos rfl] at hp;have hX := HX.out;rw [hq, if_pos rfl] at hX;have HX := LH hX;have HP := LH hp;clear hX hq hp;go_wp2_with (go_at_call 40; refine stopAt ?_);unfold Hid;refine (must_at g t l.tail 0 [[40], [42], [41]] _ HP.out).mono ?_;intro e w2 hR_;cases hx : mustT [[40], [42], [41]] l.tail with
  | error p =>
   rw [hx] at hR_;obtain ⟨rfl, hE⟩ := hR_
   have hq : DoP g t 0 X (ItG w.heap.size) w (.panicked [{ v := failV p.1 p.2, recovered := false }]) w2 := by
    rw [HX.out, hx];exact ⟨rfl, HS.out.trans hE⟩
   exact ⟨rfl, hq⟩
  | ok q =>
   obtain ⟨⟨⟩, l1⟩ := q;rw [hx] at hR_;obtain ⟨v, rfl, rfl, hp, hS⟩ := hR_;have hX := HX.out;rw [hx, thenT_ok] at hX;have HX := LH hX;clear hX hx;have hSz := hS.size;have HRR := LH (HRR.out.keep hS (by omega));have HS := LH (HS.out.trans hS);have HP := LH hp;clear hp hS;have HX : Hid (X = .ok (⟨3, .zero⟩, l1)) := LH HX.out;have rr := HRR.out;obtain ⟨q0, q1, q2, q3, q4, q5, q6⟩ := CN7 rr;obtain ⟨x0, x1, x2, x3, x4, x5, x6⟩ := FN7 rr;have zr := rr.lt;have hHB : w.heap.size < w2.heap.size := rr.lt;obtain ⟨hD, hB, hC⟩ := fin_cs (cs := itCs (.slice none 0 0, (⟨3, .zero⟩ : Itm))) HP.out l3 l4 l5 rr;have HE9 : Hid (ExR (setsW w2 w.heap.size 0 (itCs (.slice none 0 0, (⟨3, .zero⟩ : Itm)))) (fun q => w.heap.size ≤ q) (.slice none 0 0) ((⟨3, .zero⟩ : Itm)).e) := LH (ExR.lf _ _ _ _ _);have HD := LH hD;have HB := LH hB;have HS9 : Hid (Same (fun q => q ≠ g) w (setsW w2 w.heap.size 0 (itCs (.slice none 0 0, (⟨3, .zero⟩ : Itm))))) := LH (Same.sets' (Nat.le_refl _) _ 0 HS.out);clear rr hD hB hC;go_wp2;refine bodyPost_ret (item_results (u := .slice none 0 0) (x := (⟨3, .zero⟩ : Itm)) (show Row _ _ _ (itCs (.slice none 0 0, (⟨3, .zero⟩ : Itm))) from HD.out) rfl) rfl ?_;rw [HX.out];exact ⟨_, rfl, ⟨_, rfl, HE9.out⟩, HB.out, HS9.out⟩
def zst : List Value := [.int .i64 0, .string ⟨#[]⟩, .slice none 0 0, .slice none 0 0, .slice none 0 0, .bool false, .int .i64 0, .string ⟨#[]⟩, .int .i64 0, .int .i64 0, .string ⟨#[]⟩, .slice none 0 0, .string ⟨#[]⟩, .bool false, .int .i64 0]
def StG (B : Nat) (s : Stm) (w : World) (v : Value) : Prop := ∃ u, v = stV u s ∧ StR w (fun q => B ≤ q) u s
theorem where_ok {s s' : Stm} {l l' : List PT} (h : whereT s l = .ok (s', l')) (hf : s.filt = false) (hc : s.cond = .zero) : ∃ ft cd, s' = { s with filt := ft, cond := cd } := by
 unfold whereT at h;split at h
 ·obtain ⟨e, l1, _, h2⟩ := thenT_inv h;injection h2 with h2;injection h2 with h2 _;exact ⟨_, _, h2.symm⟩
 ·injection h with h;injection h with h _;exact ⟨false, .zero, by rw [← hf, ← hc]; exact h.symm⟩
theorem itCs_len (p : Value × Itm) : (itCs p).length = 7 := rfl
theorem itOne {w : World} {S : Nat → Prop} {u : Value} {y : Itm} (h : ExR w S u y.e) : ∀ c ∈ itCs (u, y), c.oneCell' = true := by
 intro c hc;simp only [itCs, exCs, List.mem_cons, List.not_mem_nil, or_false] at hc;rcases hc with rfl | rfl | rfl | rfl | rfl | rfl | rfl <;> first | rfl | exact h.one
theorem where_ok2 {k lm : Int} {tb od : List UInt8} {its : List Itm} {rs : List (List Ex)} {ss : List Asn} {dn : Bool} {s' : Stm} {l l' : List PT} (h : whereT ⟨k, tb, its, rs, ss, false, .zero, od, dn, lm⟩ l = .ok (s', l')) :
  ∃ ft cd, s' = ⟨k, tb, its, rs, ss, ft, cd, od, dn, lm⟩ := where_ok h rfl rfl
/-- SELECT's rest, behind what it tells; behind its WHERE. -/
def ordlimF (s : Stm) (l : List PT) : PR Stm := thenT (orderT s l) fun s l5 => limitT s l5
def chooseF (its : List Itm) (l : List PT) : PR Stm := thenT (mustT [wFROM] l) fun _ l2 => thenT (nameT l2) fun tb l3 => thenT (whereT ⟨1, tb, its, [], [], false, .zero, [], false, -1⟩ l3) ordlimF
theorem choose_eq (l : List PT) : chooseT l = thenT (itemsT l) chooseF := rfl
def itemB (l : List PT) : Bool := leadsT l || beginsT [wCOUNT, wSUM] l
theorem items_eq (l : List PT) : itemsT l = if isT [42] l then .ok ([⟨1, .zero⟩], l.tail) else thenT (itemT l) fun a l1 => sepT (isT [44]) itemT itemB 6 l1.length [a] l1 := rfl
theorem choose_results {W : World} {k : Nat} {u : SU} {s : Stm} (R : Row W k 44 (stCs u s)) {tmps : Array Value} (h1 : tmps.getD 2 undef = .pointer (some ⟨k, 0, none⟩)) :
  (results Tryz.f83 tmps).run Tryz.prog W = .ok (stV u s) W := by
 have d0 : W.cell? ⟨k, 0, none⟩ = some (.int .i64 s.kind) := R.cell 0;have d1 : W.cell? ⟨k, 1, none⟩ = some (.string (str s.table)) := R.cell 1;have d2 : W.cell? ⟨k, 2, none⟩ = some (u.items) := R.cell 2;have d3 : W.cell? ⟨k, 3, none⟩ = some (u.rows) := R.cell 3;have d4 : W.cell? ⟨k, 4, none⟩ = some (u.sets) := R.cell 4;have d5 : W.cell? ⟨k, 5, none⟩ = some (.bool s.filt) := R.cell 5;have d6 : W.cell? ⟨k, 6, none⟩ = some (.int .i64 s.cond.kind) := R.cell 6;have d7 : W.cell? ⟨k, 7, none⟩ = some (.string (str s.cond.s)) := R.cell 7;have d8 : W.cell? ⟨k, 8, none⟩ = some (.int .i64 s.cond.v.kind) := R.cell 8;have d9 : W.cell? ⟨k, 9, none⟩ = some (.int .i64 s.cond.v.n) := R.cell 9;have d10 : W.cell? ⟨k, 10, none⟩ = some (.string (str s.cond.v.s)) := R.cell 10;have d11 : W.cell? ⟨k, 11, none⟩ = some (u.cond) := R.cell 11;have d12 : W.cell? ⟨k, 12, none⟩ = some (.string (str s.order)) := R.cell 12;have d13 : W.cell? ⟨k, 13, none⟩ = some (.bool s.down) := R.cell 13;have d14 : W.cell? ⟨k, 14, none⟩ = some (.int .i64 s.limit) := R.cell 14;simp at h1;simp [results, Tryz.results83, h1, go_sem, d0, d1, d2, d3, d4, d5, d6, d7, d8, d9, d10, d11, d12, d13, d14]
theorem stmt_results {W : World} {k : Nat} {u : SU} {s : Stm} (R : Row W k 44 (stCs u s)) {tmps : Array Value} (h1 : tmps.getD 2 undef = .pointer (some ⟨k, 0, none⟩)) :
  (results Tryz.f36 tmps).run Tryz.prog W = .ok (stV u s) W := by
 have d0 : W.cell? ⟨k, 0, none⟩ = some (.int .i64 s.kind) := R.cell 0;have d1 : W.cell? ⟨k, 1, none⟩ = some (.string (str s.table)) := R.cell 1;have d2 : W.cell? ⟨k, 2, none⟩ = some (u.items) := R.cell 2;have d3 : W.cell? ⟨k, 3, none⟩ = some (u.rows) := R.cell 3;have d4 : W.cell? ⟨k, 4, none⟩ = some (u.sets) := R.cell 4;have d5 : W.cell? ⟨k, 5, none⟩ = some (.bool s.filt) := R.cell 5;have d6 : W.cell? ⟨k, 6, none⟩ = some (.int .i64 s.cond.kind) := R.cell 6;have d7 : W.cell? ⟨k, 7, none⟩ = some (.string (str s.cond.s)) := R.cell 7;have d8 : W.cell? ⟨k, 8, none⟩ = some (.int .i64 s.cond.v.kind) := R.cell 8;have d9 : W.cell? ⟨k, 9, none⟩ = some (.int .i64 s.cond.v.n) := R.cell 9;have d10 : W.cell? ⟨k, 10, none⟩ = some (.string (str s.cond.v.s)) := R.cell 10;have d11 : W.cell? ⟨k, 11, none⟩ = some (u.cond) := R.cell 11;have d12 : W.cell? ⟨k, 12, none⟩ = some (.string (str s.order)) := R.cell 12;have d13 : W.cell? ⟨k, 13, none⟩ = some (.bool s.down) := R.cell 13;have d14 : W.cell? ⟨k, 14, none⟩ = some (.int .i64 s.limit) := R.cell 14;simp at h1;simp [results, Tryz.results36, h1, go_sem, d0, d1, d2, d3, d4, d5, d6, d7, d8, d9, d10, d11, d12, d13, d14]
end Go.Proofs.YtdfojghhpdkpfaaGreatDoor
