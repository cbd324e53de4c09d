/-
  Words, plain models, laws and walks that the claims of this layer share (joined by shake.py). No condition.
-/
import Derived.Recover
import Derived.HandedShaped
import Derived.ChangeMaps5
import Derived.Lay
import Derived.Lib.LaidU8
import Derived.Lib.LaidTab
import Derived.Test.YtdfojghhpdkpfaaGreatDoorG13
set_option linter.unusedSimpArgs false
set_option linter.unusedVariables false
namespace Go.Proofs.YtdfojghhpdkpfaaGreatDoor
open Go.RowKit
theorem run_assert (v : Value) (w : World) : (Instr.typeAssert (.iface 57 v) 20 57 false).run Tryz.prog w = .ok v w := by
 simp [Instr.typeAssert, run_underlying Tryz.underlying57, Sem.run_bind, Sem.run_pure]
theorem catch_idle (p q r : Addr) (w : World) : CallsD Tryz.prog 23 #[.pointer (some p), .pointer (some q), .pointer (some r)] .returning w fun e u' w' => e = .returned (.tuple #[]) ∧ u' = .returning ∧ w' = w := by
 refine callsD_of_wpS Tryz.func23 rfl fun c₀ cs hu => ?_
 apply wpS_seq;apply wpS_region;simp [wpOpsS, go_sem, recoverD, hu, Tryz.ntmps23, Exit.thenS];apply wpS_seq;apply wpS_region;simp [wpOpsS, go_sem, Exit.thenS];refine wpS_cond (t := false) (by simp [Act.eval, Array.replicate]) ?_;simp only [Bool.false_eq_true, if_false];refine wpS_of_wp (wp_skip ?_);cases c₀;simp_all [bodyPostS, results, Tryz.results23]
theorem catch_panic (g : Nat) (pl e : Nat) (w : World) (hl : Row w g 25 [.int .i64 0, .int .i64 0, .slice none 0 0]) (hp : Row w (g + 1) 3 [.int .i64 0]) (x : Int) (he : Row w (g + 2) 26 [.int .i64 x]) :
  CallsD Tryz.prog 23 #[.pointer (some ⟨g, 0, none⟩), .pointer (some ⟨g + 1, 0, none⟩), .pointer (some ⟨g + 2, 0, none⟩)] (.panicking ({ v := failV pl e, recovered := false } :: [])) w fun en u' w' => en = .returned (.tuple #[]) ∧ u' = .panicking ({ v := failV pl e, recovered := true } :: []) ∧
   Row w' g 25 [.int .i64 0, .int .i64 0, .slice none 0 0] ∧ Row w' (g + 1) 3 [.int .i64 pl] ∧ Row w' (g + 2) 26 [.int .i64 e] ∧ Same (fun q => q < g) w w' := by
 refine callsD_of_wpS Tryz.func23 rfl fun c₀ cs hu => ?_
 apply wpS_seq;apply wpS_region;simp [wpOpsS, go_sem, recoverD, hu, Tryz.ntmps23, Exit.thenS, failV];have c0 := hl.cell 0;have c1 := hl.cell 1;have c2 := hl.cell 2;have d0 := hp.cell 0;have e0 := he.cell 0;simp only [LG] at c0 c1 c2 d0 e0;obtain ⟨x0, x1, x2⟩ := FN3 hl;have y0 := hp.frozen 0;have z0 := he.frozen 0;have l0 := hl.lt;have l1 := hp.lt;have l2 := he.lt;have HL := LH hl;have HQ := LH hp;have HE := LH he;clear hl hp he;apply wpS_seq;apply wpS_region;simp [wpOpsS, go_sem, Exit.thenS];refine wpS_cond (t := true) (by simp [Act.eval, Array.replicate]) ?_;simp only [if_true];refine wpS_of_wp (Code.wp_mono (Q := fun e_1 a' w' => (e_1 = .normal ∨ e_1 = .ret) ∧ a'.defers = [] ∧ Row w' g 25 [.int .i64 0, .int .i64 0, .slice none 0 0] ∧ Row w' (g + 1) 3 [.int .i64 pl] ∧ Row w' (g + 2) 26 [.int .i64 e] ∧ Same (fun q => q < g) w w') ?_ ?_)
 ·rintro e_1 a' w' ⟨h1, h2, h3⟩;have hr : ∀ tmps : Array Value, (results Tryz.f23 tmps).run Tryz.prog w' = .ok (.tuple #[]) w' := fun _ => by simp [results, Tryz.results23]
  rcases h1 with rfl | rfl
  ·exact ⟨h2, _, rfl, _, hr _, rfl, rfl, h3⟩
  ·exact ⟨h2, _, rfl, _, hr _, rfl, rfl, h3⟩
 clear hu
 show Code.wp _ _ _
  { tmps := #[.pointer (some ⟨g, 0, none⟩), .pointer (some ⟨g + 1, 0, none⟩), .pointer (some ⟨g + 2, 0, none⟩), .iface 57 (.agg #[.int .i64 pl, .int .i64 e]), undef, .iface 57 (.agg #[.int .i64 pl, .int .i64 e]), .iface 57 (.agg #[.int .i64 pl, .int .i64 e]), .bool true, undef, undef, undef, undef, undef, undef, undef], defers := [] } w
 obtain ⟨Q, hQ⟩ : ∃ Q : Exit → Act → World → Prop, Q = fun e_1 a' w' => (e_1 = .normal ∨ e_1 = .ret) ∧ a'.defers = [] ∧ Row w' g 25 [.int .i64 0, .int .i64 0, .slice none 0 0] ∧ Row w' (g + 1) 3 [.int .i64 pl] ∧ Row w' (g + 2) 26 [.int .i64 e] ∧ Same (fun q => q < g) w w' := ⟨_, rfl⟩
 rw [← hQ];have HQQ := LH hQ;clear hQ;have hta := run_assert;go_upto_region 3 with (fail);have hA := (Same.refl (fun _ => True) w).alloc (.cells #[.int .i64 (pl : Int), .int .i64 (e : Int)] 57);have hF := Row.new w 57 [.int .i64 (pl : Int), .int .i64 (e : Int)];have hS : Same (fun q => q < g) w (w.alloc (.cells #[.int .i64 (pl : Int), .int .i64 (e : Int)] 57)) := hA.mono fun _ _ _ => tv
 have hl := HL.out.keep hA tv;have hp := HQ.out.keep hA tv;have he := HE.out.keep hA tv;have hz : (w.alloc (.cells #[.int .i64 (pl : Int), .int .i64 (e : Int)] 57)).heap.size = w.heap.size + 1 := by simp
 clear c0 c1 c2 d0 e0 x0 x1 x2 y0 z0 hA;revert hF hS hl hp he hz;show (Row (w.alloc (.cells #[.int .i64 (pl : Int), .int .i64 (e : Int)] 57)) _ _ _ → _);generalize w.alloc _ = wA;intro hF hS hl hp he hz;have c0 := hl.cell 0;have c1 := hl.cell 1;have c2 := hl.cell 2;have d0 := hp.cell 0;have e0 := he.cell 0;have b0 := hF.cell 0;have b1 := hF.cell 1;simp only [LG] at c0 c1 c2 d0 e0 b0 b1;obtain ⟨x0, x1, x2⟩ := FN3 hl;have y0 := hp.frozen 0;have z0 := he.frozen 0;have hn : ¬ w.heap.size = g ∧ ¬ w.heap.size = g + 1 ∧ ¬ w.heap.size = g + 2 := by omega
 obtain ⟨n0, n1, n2⟩ := hn
 have HFIN : Hid (∀ W0 : World, Same (fun _ => True) wA W0 → ∀ W1, W1 = ((((W0.setCell ⟨g, 0, none⟩ (.int .i64 0)).setCell ⟨g, 1, none⟩ (.int .i64 0)).setCell ⟨g, 2, none⟩ (.slice none 0 0)).setCell ⟨g + 1, 0, none⟩ (.int .i64 (pl : Int))).setCell ⟨g + 2, 0, none⟩ (.int .i64 (e : Int)) →
  Row W1 g 25 [.int .i64 0, .int .i64 0, .slice none 0 0] ∧ Row W1 (g + 1) 3 [.int .i64 pl] ∧ Row W1 (g + 2) 26 [.int .i64 e] ∧ Same (fun q => q < g) w W1) := LH (by
  intro W0 h0 W1 h1;have s1 : Same (fun q => q ≠ g) W0 (((W0.setCell ⟨g, 0, none⟩ (.int .i64 0)).setCell ⟨g, 1, none⟩ (.int .i64 0)).setCell ⟨g, 2, none⟩ (.slice none 0 0)) := ((SR.setCell (fun _ h => h rfl) _).setCell (fun _ h => h rfl) _).setCell (fun _ h => h rfl) _;have r1 := (((hl.keep h0 tv).set_ 0 (.int .i64 0)).set_ 1 (.int .i64 0)).set_ 2 (.slice none 0 0);have p1 := (hp.keep h0 tv).keep s1 (by omega);have e1 := (he.keep h0 tv).keep s1 (by omega);revert s1 r1 p1 e1 h1;generalize ((W0.setCell ⟨g, 0, none⟩ (.int .i64 0)).setCell ⟨g, 1, none⟩ (.int .i64 0)).setCell ⟨g, 2, none⟩ (.slice none 0 0) = Wa;intro h1 s1 r1 p1 e1;have s2 : Same (fun q => q ≠ g + 1) Wa (Wa.setCell ⟨g + 1, 0, none⟩ (.int .i64 (pl : Int))) := SR.setCell (fun _ h => h rfl) _;have r2 := r1.keep s2 (by omega);have p2 := p1.set_ 0 (.int .i64 (pl : Int));have e2 := e1.keep s2 (by omega);revert s2 r2 p2 e2 h1;generalize Wa.setCell ⟨g + 1, 0, none⟩ (.int .i64 (pl : Int)) = Wb;intro h1 s2 r2 p2 e2;have s3 : Same (fun q => q ≠ g + 2) Wb (Wb.setCell ⟨g + 2, 0, none⟩ (.int .i64 (e : Int))) := SR.setCell (fun _ h => h rfl) _;subst h1
  exact ⟨r2.keep s3 (by omega), p2.keep s3 (by omega), e2.set_ 0 (.int .i64 (e : Int)), ((((hS.trans (h0.mono fun _ _ _ => tv)).trans (s1.mono fun q _ (h : q < g) => by omega)).trans (s2.mono fun q _ (h : q < g) => by omega)).trans (s3.mono fun q _ (h : q < g) => by omega))⟩)
 clear hF hS hl hp he;go_region;obtain ⟨q1, q2, q3, q4⟩ := HFIN.out wA SR _ rfl;rw [HQQ.out];exact ⟨.inl rfl, rfl, q1.keep (ST).drew tv, q2.keep (ST).drew tv, q3.keep (ST).drew tv, q4.trans SR.drew⟩
/-- What Parse answers. -/
def ParseP (r : LotM × Nat × Nat) (w : World) (e : Ending) (w' : World) : Prop :=
 ∃ u, e = .returned (.tuple #[ltV u r.1, .int .i64 r.2.1, .int .i64 r.2.2]) ∧ LtR w' (fun q => w.heap.size ≤ q) u r.1 ∧ Same (fun _ => True) w w'
theorem parse_results {W : World} {k : Nat} {u : Value} {l : LotM} {pl e : Int} (R : Row W k 25 (ltCs u l)) (P : Row W (k + 1) 3 [.int .i64 pl]) (E : Row W (k + 2) 26 [.int .i64 e]) {tmps : Array Value}
  (h1 : tmps.getD 2 undef = .pointer (some ⟨k, 0, none⟩)) (h2 : tmps.getD 3 undef = .pointer (some ⟨k + 1, 0, none⟩)) (h3 : tmps.getD 4 undef = .pointer (some ⟨k + 2, 0, none⟩)) :
  (results Tryz.f10 tmps).run Tryz.prog W = .ok (.tuple #[ltV u l, .int .i64 pl, .int .i64 e]) W := by
 have d0 : W.cell? ⟨k, 0, none⟩ = some (.int .i64 l.mode) := R.cell 0;have d1 : W.cell? ⟨k, 1, none⟩ = some (.int .i64 l.n) := R.cell 1;have d2 : W.cell? ⟨k, 2, none⟩ = some u := R.cell 2;have d3 : W.cell? ⟨k + 1, 0, none⟩ = some (.int .i64 pl) := P.cell 0;have d4 : W.cell? ⟨k + 2, 0, none⟩ = some (.int .i64 e) := E.cell 0;simp at h1 h2 h3;simp [results, Tryz.results10, h1, h2, h3, go_sem, d0, d1, d2, d3, d4]
/-- A lot, a place and an error written behind each other. -/
theorem store_three {g : Nat} {W : World} {a0 b0 c0 x0 y0 : Value} (a b c x y : Value) (hl : Row W g 25 [a0, b0, c0]) (hp : Row W (g + 1) 3 [x0]) (he : Row W (g + 2) 26 [y0]) {W1 : World}
  (h1 : W1 = ((((W.setCell ⟨g, 0, none⟩ a).setCell ⟨g, 1, none⟩ b).setCell ⟨g, 2, none⟩ c).setCell ⟨g + 1, 0, none⟩ x).setCell ⟨g + 2, 0, none⟩ y) :
  Row W1 g 25 [a, b, c] ∧ Row W1 (g + 1) 3 [x] ∧ Row W1 (g + 2) 26 [y] ∧ Same (fun q => q < g ∨ g + 2 < q) W W1 := by
 have s1 : Same (fun q => q ≠ g) W (((W.setCell ⟨g, 0, none⟩ a).setCell ⟨g, 1, none⟩ b).setCell ⟨g, 2, none⟩ c) := ((SR.setCell (fun _ h => h rfl) _).setCell (fun _ h => h rfl) _).setCell (fun _ h => h rfl) _;have r1 := ((hl.set_ 0 a).set_ 1 b).set_ 2 c;have p1 := hp.keep s1 (by omega);have e1 := he.keep s1 (by omega);revert s1 r1 p1 e1 h1;generalize ((W.setCell ⟨g, 0, none⟩ a).setCell ⟨g, 1, none⟩ b).setCell ⟨g, 2, none⟩ c = Wa;intro h1 s1 r1 p1 e1;have s2 : Same (fun q => q ≠ g + 1) Wa (Wa.setCell ⟨g + 1, 0, none⟩ x) := SR.setCell (fun _ h => h rfl) _;have r2 := r1.keep s2 (by omega);have p2 := p1.set_ 0 x;have e2 := e1.keep s2 (by omega);revert s2 r2 p2 e2 h1;generalize Wa.setCell ⟨g + 1, 0, none⟩ x = Wb;intro h1 s2 r2 p2 e2;have s3 : Same (fun q => q ≠ g + 2) Wb (Wb.setCell ⟨g + 2, 0, none⟩ y) := SR.setCell (fun _ h => h rfl) _;subst h1;exact ⟨r2.keep s3 (by omega), p2.keep s3 (by omega), e2.set_ 0 y, ((s1.mono fun q _ h => by omega).trans (s2.mono fun q _ h => by omega)).trans (s3.mono fun q _ h => by omega)⟩
theorem lex_end {x : List UInt8} (h : (lexF x).1 = 0) : ∃ pre, (lexF x).2 = pre ++ [(x.length, tE)] ∧ (lexF x).2.length ≤ 2001 := by
 unfold lexF at h ⊢;by_cases hl : 2000 < x.length
 ·rw [if_pos hl] at h; cases h
 ·rw [if_neg hl] at h ⊢;by_cases h0 : (lexFrom 0 x).1 = 0
  ·rw [if_pos h0] at h ⊢;refine ⟨_, rfl, ?_⟩;have := lexFrom_len x.length x 0 (Nat.le_refl _);simp only [List.length_append, List.length_singleton];omega
  ·rw [if_neg h0] at h; exact absurd h h0
/-- Tokens that the call owns, ahead of a parser. -/
theorem PS.mk_ {w : World} {g B : Nat} {A : Option Addr} {c : Nat} {l pre : List PT} {p : Nat} (ho : OwnT w B (.slice A l.length c) l) (hl : l = pre ++ [(p, tE)]) (hn : l.length ≤ 2001) (hm : Mx w) (hB : 1 < B) (hg : Row w g 60 [.slice A l.length c, .int .i64 0]) (hbg : B ≤ g) :
  ∃ t, t ≠ g ∧ B ≤ t ∧ t < w.heap.size ∧ PS w g t l 0 := by
 rcases ownsRow_row ho with ⟨-, h0, -⟩ | ⟨t, cap, cur, hA, hb, hr, h1, h2, h3, h4⟩
 ·rw [hl] at h0; simp at h0
 ·injection hA with e1 e2 e3;subst e1 e3;have hne : t ≠ g := (hr.ne hg (by decide));refine ⟨t, hne, hb, hr.lt, ⟨⟨pre, p, hl⟩, by omega, by omega, hm, by omega, hne, by omega, 0, c, hg, h1, h2, fun j u hu => ?_⟩⟩;rw [← h4] at hu;rw [Nat.zero_add, hr.cell];rw [List.getElem?_take] at hu;split at hu
  ·exact hu
  ·cases hu
set_option maxRecDepth 100000 in
set_option maxHeartbeats 4000000 in
theorem parse_any (s : ByteArray) (w : World) (hs : s.size ≤ 100000) (hm : Mx w) : Calls Tryz.prog 10 #[.string s] w (ParseP (parseF (bl s)) w) := by
 have hmf : ∀ (fn : Fn) (first cap : Array Value) (w : World), (Instr.makeFunc fn first cap).run Tryz.prog w = .ok (.func fn first cap) w := fun _ _ _ _ => rfl
 have hs0 := (((Same.refl (fun _ => True) w).alloc (.cells #[.int .i64 0, .int .i64 0, .slice none 0 0] 25)).alloc (.cells #[.int .i64 0] 3)).alloc (.cells #[.int .i64 0] 26);have hl := ((Row.new w 25 [.int .i64 0, .int .i64 0, .slice none 0 0]).keep ((ST).alloc (.cells #[.int .i64 0] 3)) tv).keep ((ST).alloc (.cells #[.int .i64 0] 26)) tv;have hp := (Row.new (w.alloc (.cells #[.int .i64 0, .int .i64 0, .slice none 0 0] 25)) 3 [.int .i64 0]).keep ((ST).alloc (.cells #[.int .i64 0] 26)) tv;have he := Row.new ((w.alloc (.cells #[.int .i64 0, .int .i64 0, .slice none 0 0] 25)).alloc (.cells #[.int .i64 0] 3)) 26 [.int .i64 0];have hz : (((w.alloc (.cells #[.int .i64 0, .int .i64 0, .slice none 0 0] 25)).alloc (.cells #[.int .i64 0] 3)).alloc (.cells #[.int .i64 0] 26)).heap.size = w.heap.size + 3 := by simp
 have z1 : (w.alloc (.cells #[.int .i64 0, .int .i64 0, .slice none 0 0] 25)).heap.size = w.heap.size + 1 := by simp
 have z2 : ((w.alloc (.cells #[.int .i64 0, .int .i64 0, .slice none 0 0] 25)).alloc (.cells #[.int .i64 0] 3)).heap.size = w.heap.size + 2 := by simp
 rw [z1] at hp;rw [z2] at he;have hm0 := hm.keep hs0;have hml := hm.lt;clear z1 z2 hm;obtain ⟨R, hR⟩ : ∃ R, R = lexF (bl s) := ⟨_, rfl⟩;obtain ⟨X, hX⟩ : ∃ X, X = parseF (bl s) := ⟨_, rfl⟩;rw [← hX];have HX := LH hX;have HR := LH hR;have HS := LH hs0;have HL := LH hl;have HP := LH hp;have HE := LH he;have HM := LH hm0;clear hX hR hs0 hl hp he hm0;go_enter_defers Tryz.func10, Tryz.ntmps10;go_wp2_with (go_at_call 22; refine stopAt ?_);unfold Hid;revert HS HL HP HE HM hz;generalize ((w.alloc _).alloc _).alloc _ = w0;intro hz HS HL HP HE HM;refine (lexlex_any s w0 hs).mono ?_;rintro e w1 ⟨v, rfl, hown, hS⟩;rw [← HR.out] at hown ⊢;obtain ⟨A, c, rfl, hc1, hc2⟩ := hown.form;have HO := LH hown;have HL := LH (HL.out.keep hS tv);have HP := LH (HP.out.keep hS tv);have HE := LH (HE.out.keep hS tv);have HM := LH (HM.out.keep hS);have hz1 := hS.size;have HS := LH (HS.out.trans hS);unfold maxLen at hc2;clear hown hS;have he := HE.out;have c0 := he.cell 0;simp only [List.getElem?_cons_zero] at c0;have x0 := he.frozen 0;have y0 := he.lt;have hs2 : Same (fun q => q ≠ w.heap.size + 2) w1 (w1.setCell ⟨w.heap.size + 2, 0, none⟩ (.int .i64 (R.1 : Int))) := SR.setCell (fun _ h => h rfl) _;have hsz := size_set w1 ⟨w.heap.size + 2, 0, none⟩ (.int .i64 (R.1 : Int));have hE2 : Row (w1.setCell ⟨w.heap.size + 2, 0, none⟩ (.int .i64 (R.1 : Int))) (w.heap.size + 2) 26 [.int .i64 (R.1 : Int)] := he.set_ 0 (.int .i64 (R.1 : Int));have hL2 := HL.out.keep hs2 (by omega);have hP2 := HP.out.keep hs2 (by omega);have hM2 := HM.out.keepS hs2 (by omega);have hO2 := HO.out.keep hs2 fun k hk _ => by omega
 have hS2 := HS.out.trans' hs2 (S' := fun q => q ≠ w.heap.size + 2) fun q hq _ => by omega
 have HL2 := LH hL2;have HP2 := LH hP2;have HE2 := LH hE2;have HM2 := LH hM2;have HO2 := LH hO2;have HS2 := LH hS2;clear he hs2 hE2 hL2 hP2 hM2 hO2 hS2;by_cases h0 : R.1 = 0
 ·have e1 : ((R.1 : Int) != 0) = false := by rw [h0]; rfl
  have H0 := LH h0;clear h0;go_wp2_with (go_at_call 24; refine stopAt ?_);unfold Hid;clear c0 x0 y0;revert hsz HL2 HP2 HE2 HM2 HO2 HS2;generalize w1.setCell _ _ = wE;intro hsz HL2 HP2 HE2 HM2 HO2 HS2;rw [← hsz, show w.heap.size + 1 + 1 = w.heap.size + 2 from rfl];obtain ⟨pre, hpre, hlen⟩ := lex_end (x := bl s) (by rw [← HR.out]; exact H0.out);rw [← HR.out] at hpre hlen;have hg := Row.new wE 60 [.slice A R.2.length c, .int .i64 0];have hA := (Same.refl (fun _ => True) wE).alloc (.cells #[.slice A R.2.length c, .int .i64 0] 60);have hzE := HE2.out.lt;have hzA : (wE.alloc (.cells #[.slice A R.2.length c, .int .i64 0] 60)).heap.size = wE.heap.size + 1 := by simp
  obtain ⟨t, t1, t2, t3, hps⟩ := PS.mk_ (B := w0.heap.size) (HO2.out.keepAll hA) hpre hlen (HM2.out.keep hA) (by omega) hg (by omega);have HL3 := LH (HL2.out.keep hA tv);have HP3 := LH (HP2.out.keep hA tv);have HE3 := LH (HE2.out.keep hA tv);have HS3 := LH (HS2.out.trans (hA.mono fun _ _ _ => tv));clear hg hpre hlen;have hll := lot_any wE.heap.size t R.2 _ hps;revert HL3 HP3 HE3 HS3 hzA;revert hll;show (Calls _ _ _ (wE.alloc (.cells #[.slice A R.2.length c, .int .i64 0] 60)) _ → _);clear hps hA;generalize wE.alloc _ = wF;intro hll hzA HL3 HP3 HE3 HS3;refine hll.mono ?_;intro e w5 hR_;cases hx : lotP R.2 with
  | error p =>
   rw [hx] at hR_;obtain ⟨rfl, hE⟩ := hR_;obtain ⟨pl, er⟩ := p
   have hXF : X = (.zero, pl, er) := by
    rw [HX.out];unfold parseF;rw [← HR.out, if_pos H0.out, hx]
   have HXF := LH hXF;have hl := HL3.out.keep hE (by omega);have hp := HP3.out.keep hE (by omega);have he := HE3.out.keep hE (by omega);have HS5 := LH (HS3.out.trans' hE (S' := fun q => q ≠ wE.heap.size) fun q hq _ => by omega);refine leaves_cons (f := 23) (args := #[.pointer (some ⟨w.heap.size, 0, none⟩), .pointer (some ⟨w.heap.size + 1, 0, none⟩), .pointer (some ⟨w.heap.size + 2, 0, none⟩)]) (by simp) (by simp [go_sem]) ?_;refine (catch_panic w.heap.size pl er w5 hl hp _ he).mono ?_;rintro e' u' w6 ⟨rfl, rfl, q1, q2, q3, q4⟩
   have hq : ParseP X w (.returned (.tuple #[ltV (.slice none 0 0) .zero, .int .i64 (pl : Int), .int .i64 (er : Int)])) w6 := by
    rw [HXF.out];exact ⟨_, rfl, LsR.nil _ _, HS5.out.trans' q4 fun q hq _ => hq⟩
   exact ⟨_, parse_results (u := .slice none 0 0) (l := .zero) q1 q2 q3 rfl rfl rfl, hq⟩
  | ok q =>
   obtain ⟨L, l2⟩ := q;rw [hx] at hR_
   have hXF : X = (L, 0, 0) := by
    rw [HX.out];unfold parseF;rw [← HR.out, if_pos H0.out, hx]
   obtain ⟨v, rfl, ⟨u, rfl, hlt⟩, hps2, hE⟩ := hR_;have HXF := LH hXF;obtain ⟨Au, cu, rfl, -, -⟩ := (show LsR stCsP 15 StR _ _ u L.stmts from hlt).form;have HL2 := LH (HL3.out.keep hE (by omega));have HP2 := LH (HP3.out.keep hE (by omega));have HE2 := LH (HE3.out.keep hE (by omega));have HS5 := LH (HS3.out.trans' hE (S' := fun q => q ≠ wE.heap.size) fun q hq _ => by omega);have HLT := LH hlt;have hz5 := hE.size;clear hlt hps2 hE hXF hx hll;have hl := HL2.out;have hp := HP2.out;have he := HE2.out;have c0 := hl.cell 0;have c1 := hl.cell 1;have c2 := hl.cell 2;have c3 := hp.cell 0;have c4 := he.cell 0;simp only [LG] at c0 c1 c2 c3 c4;obtain ⟨x0, x1, x2⟩ := FN3 hl;have x3 := hp.frozen 0;have x4 := he.frozen 0;have zr := he.lt;clear hl hp he;have H3 := LH (fun W1 h1 => store_three (.int .i64 L.mode) (.int .i64 L.n) (.slice Au L.stmts.length cu) (.int .i64 0) (.int .i64 0) HL2.out HP2.out HE2.out (W1 := W1) h1);go_wp2;obtain ⟨q1, q2, q3, q4⟩ := H3.out _ rfl;refine leaves_cons (f := 23) (args := #[.pointer (some ⟨w.heap.size, 0, none⟩), .pointer (some ⟨w.heap.size + 1, 0, none⟩), .pointer (some ⟨w.heap.size + 2, 0, none⟩)]) (by simp) (by simp [go_sem]) ?_;refine (catch_idle _ _ _ _).mono ?_;rintro e' u' w6 ⟨rfl, rfl, rfl⟩;refine ⟨_, parse_results (u := .slice Au L.stmts.length cu) (l := L) q1 q2 q3 rfl rfl rfl, ?_⟩;rw [HXF.out];exact ⟨_, rfl, (LsR.keep stK HLT.out (q4.mono fun q hq (h : wF.heap.size ≤ q) => by omega)).mono stK (by omega) fun q hq (h : wF.heap.size ≤ q) => by omega, HS5.out.trans' q4 fun q hq _ => .inl hq⟩
 ·have e1 : ((R.1 : Int) != 0) = true := by simpa using h0
  have hXF : X = (.zero, 0, R.1) := by
   rw [HX.out];unfold parseF;rw [← HR.out, if_neg h0]
  have HXF := LH hXF;clear h0 hXF;go_upto_region 3 with (fail);rw [show w.heap.size + 1 + 1 = w.heap.size + 2 from rfl];clear c0 x0 y0;revert hsz HL2 HP2 HE2 HM2 HO2 HS2;generalize w1.setCell _ _ = wE;intro hsz HL2 HP2 HE2 HM2 HO2 HS2;have hl := HL2.out;have hp := HP2.out;have he := HE2.out;have c0 := hl.cell 0;have c1 := hl.cell 1;have c2 := hl.cell 2;have c3 := hp.cell 0;have c4 := he.cell 0;simp only [LG] at c0 c1 c2 c3 c4;obtain ⟨x0, x1, x2⟩ := FN3 hl;have x3 := hp.frozen 0;have x4 := he.frozen 0;have zr := he.lt;clear hl hp he;have H3 := LH (fun W1 h1 => store_three (.int .i64 0) (.int .i64 0) (.slice none 0 0) (.int .i64 0) (.int .i64 (R.1 : Int)) HL2.out HP2.out HE2.out (W1 := W1) h1);go_region;go_wp2;obtain ⟨q1, q2, q3, q4⟩ := H3.out _ rfl;refine ⟨_, parse_results (u := .slice none 0 0) (l := .zero) (q1.keep (ST).drew tv) (q2.keep (ST).drew tv) (q3.keep (ST).drew tv) rfl rfl rfl, ?_⟩;rw [HXF.out];exact ⟨_, rfl, LsR.nil _ _, (HS2.out.trans' q4 fun q hq _ => .inl hq).trans SR.drew⟩
def lexN : Nat → Nat → List UInt8 → Nat × List (Nat × Tok)
 | 0, _, _ => (99, [])
 | k + 1, i, s => if s.isEmpty then (0, []) else
  let r := tokF s
  if r.e = 0 then
   let y := lexN k (i + r.n) (s.drop r.n)
   if y.1 = 0 then (0, (if r.t.kind = 0 then [] else [(i, r.t)]) ++ y.2) else (y.1, [])
  else (r.e, [])
theorem lexN_eq : ∀ (k : Nat) (s : List UInt8) (i : Nat), s.length ≤ k → lexN (k + 1) i s = lexFrom i s
 | k, [], i, _ => by rw [lexFrom_nil]; rfl
 | 0, x :: s, i, h => by simp at h
 | k + 1, x :: s, i, h => by
  have hne : x :: s ≠ [] := by simp
  unfold lexN;simp only [List.isEmpty_cons, Bool.false_eq_true, if_false];by_cases he : (tokF (x :: s)).e = 0
  ·have hp := tokF_pos he;rw [if_pos he, lexFrom_go hne he, lexN_eq k _ _ (by rw [List.length_drop]; omega)]
  ·rw [if_neg he, lexFrom_err hne he]
def lexK (s : List UInt8) : Nat × List (Nat × Tok) :=
 if 2000 < s.length then (3, [])
 else let y := lexN (s.length + 1) 0 s; if y.1 = 0 then (0, y.2 ++ [(s.length, ⟨0, [], 0⟩)]) else (y.1, [])
theorem lexK_eq (s : List UInt8) : lexK s = lexF s := by
 unfold lexK lexF;rw [lexN_eq _ s 0 (Nat.le_refl _)]
def parseK (s : List UInt8) : LotM × Nat × Nat :=
 let t := lexK s
 if t.1 = 0 then (match lotP t.2 with
  | .error (pl, e) => (.zero, pl, e)
  | .ok (l, _) => (l, 0, 0)) else (.zero, 0, t.1)
theorem parseK_eq (s : List UInt8) : parseK s = parseF s := by
 unfold parseK parseF;rw [lexK_eq];rfl
/-- select * from t where k = 5 -/
def b1T : List UInt8 := [115, 101, 108, 101, 99, 116, 32, 42, 32, 102, 114, 111, 109, 32, 116, 32, 119, 104, 101, 114, 101, 32, 107, 32, 61, 32, 53]
/-- SELECT FROM t -/
def b2T : List UInt8 := [83, 69, 76, 69, 67, 84, 32, 70, 82, 79, 77, 32, 116]
def b1L : LotM := ⟨0, 0, [⟨1, [84], [⟨1, .zero⟩], [], [], true, .mk 3 [61] .zero [.mk 2 [75] .zero [], .mk 1 [] ⟨2, 5, []⟩ []], [], false, -1⟩]⟩
/-- SELECT * FROM T WHERE (K = 5) -/
def b1S : List UInt8 := [83, 69, 76, 69, 67, 84, 32, 42, 32, 70, 82, 79, 77, 32, 84, 32, 87, 72, 69, 82, 69, 32, 40, 75, 32, 61, 32, 53, 41]
theorem b1_read : parseF b1T = (b1L, 0, 0) := by
 have h : (sameLot (parseK b1T).1 b1L && decide ((parseK b1T).2 = (0, 0))) = true := by decide +kernel
 rw [Bool.and_eq_true, decide_eq_true_eq, sameLot_iff, parseK_eq] at h;exact Prod.ext h.1 h.2
theorem b2_read : (parseF b2T).2 = (7, 13) := by
 rw [← parseK_eq];decide +kernel
theorem b1_may : mayLot b1L = true := by decide +kernel
theorem b1_print : printF b1L = (b1S, 0) := by
 have hd : digL 5 = [53] := by unfold digL; rw [dif_pos (by omega)]; rfl
 have hv : showL ⟨2, 5, []⟩ = [53] := by
  unfold showL;rw [if_pos (by decide), if_neg (by decide), if_pos rfl];unfold intL;rw [if_neg (by decide)];exact hd
 have hl : lotT b1L = b1S := by
  have e : lotT b1L = [83, 69, 76, 69, 67, 84, 32, 42, 32, 70, 82, 79, 77, 32, 84, 32, 87, 72, 69, 82, 69, 32, 40, 75, 32, 61, 32] ++ showL ⟨2, 5, []⟩ ++ [41] := by
   simp [lotT, modeT, showS, headS, tailS, b1L, joinT, showI, showE, showLs, showOp, wISNULL, wNOTNULL, wNOT, wNEG]
  rw [e, hv];rfl
 unfold printF;rw [hl, if_pos ⟨b1_may, by decide⟩]
theorem b1_int : LotI b1L := by
 refine ⟨by decide, fun s hs => ?_⟩;simp only [b1L, List.mem_cons, List.not_mem_nil, or_false] at hs;subst hs;refine ⟨fun x hx => ?_, fun r hr => by simp at hr, fun x hx => by simp at hx, ?_, by decide⟩
 ·simp only [List.mem_cons, List.not_mem_nil, or_false] at hx;subst hx;exact ExI.zero
 ·refine .mk (by decide) fun a ha => ?_
  simp only [List.mem_cons, List.not_mem_nil, or_false] at ha;rcases ha with rfl | rfl
  ·exact .mk (by decide) fun a ha => by cases ha
  ·exact .mk (by decide) fun a ha => by cases ha
theorem parse_at (x : List UInt8) (w : World) (hs : x.length ≤ 100000) (hm : Mx w) : Calls Tryz.prog 10 #[.string (str x)] w (ParseP (parseF x) w) := by
 have := parse_any (str x) w (by rw [str_size]; exact hs) hm;rwa [bl_str] at this
set_option maxRecDepth 100000 in
set_option maxHeartbeats 4000000 in
theorem begun_any (w : World) (hE : EnvT w) : Calls Tryz.prog 9 #[] w fun e w' => e = .returned (.bool true) ∧ Same (fun _ => True) w w' := by
 have hp1 := parse_at b1T w (by decide) hE.max;rw [b1_read] at hp1;obtain ⟨L, hL⟩ : ∃ L, L = b1L := ⟨_, rfl⟩;rw [← hL] at hp1;have HPr := LH (show printF L = (b1S, 0) by rw [hL]; exact b1_print);have HMy := LH (show mayLot L = true by rw [hL]; exact b1_may);have HLI := LH (show LotI L by rw [hL]; exact b1_int);have HE := LH hE;clear hL hE;go_enter Tryz.func9, Tryz.ntmps9;go_wp2_with (go_at_call 10; refine stopAt ?_);unfold Hid;refine (show Calls _ _ _ _ _ from hp1).mono ?_;rintro e w1 ⟨u, rfl, hlt, hS⟩;obtain ⟨A, c, rfl, -, -⟩ := (show LsR stCsP 15 StR _ _ u L.stmts from hlt).form;have hA := (Same.refl (fun _ => True) w1).alloc (.cells #[.int .i64 L.mode, .int .i64 L.n, .slice A L.stmts.length c] 25);have hrow := Row.new w1 25 [.int .i64 L.mode, .int .i64 L.n, .slice A L.stmts.length c];have hl1 : LsR stCsP 15 StR (w1.alloc (.cells #[.int .i64 L.mode, .int .i64 L.n, .slice A L.stmts.length c] 25)) (fun _ => True) (.slice A L.stmts.length c) L.stmts := (LsR.mono stK (by omega) (show LsR stCsP 15 StR _ _ (.slice A L.stmts.length c) L.stmts from hlt) fun _ _ _ => tv).keepAll stK hA;have hs1 := hS.trans hA;have he1 := HE.out.keepAll hs1;clear hlt hS hA hp1;go_wp2_with (go_at_call 16; refine stopAt ?_);unfold Hid;revert hrow hl1 hs1 he1;generalize w1.alloc _ = w2;intro hrow hl1 hs1 he1;have HR := LH hrow;have HL := LH hl1;have HS := LH hs1;have HE := LH he1;clear hrow hl1 hs1 he1;refine (print_any L (.slice A L.stmts.length c) w2 HLI.out HL.out HE.out).mono ?_;rw [HPr.out];rintro e w3 ⟨rfl, hS⟩;have HR := LH (HR.out.keep hS tv);have HL := LH (HL.out.keepAll stK hS);have HE := LH (HE.out.keepAll hS);have HS := LH (HS.out.trans hS);obtain ⟨c0, c1, c2⟩ := CN3 HR.out;have hp2 := parse_at b2T w3 (by decide) HE.out.max;obtain ⟨r, hr⟩ : ∃ r, r = parseF b2T := ⟨_, rfl⟩;have hr2 : r.2 = (7, 13) := by rw [hr]; exact b2_read
 rw [← hr] at hp2;obtain ⟨M, at_, er⟩ := r;obtain ⟨rfl, rfl⟩ : at_ = 7 ∧ er = 13 := by simpa using hr2
 clear hS hr hr2;dsimp only;go_wp2_with (go_at_call 10; refine stopAt ?_);unfold Hid;refine (show Calls _ _ _ _ _ from hp2).mono ?_;rintro e w4 ⟨u2, rfl, hlt2, hS⟩;obtain ⟨A2, d2, rfl, -, -⟩ := (show LsR stCsP 15 StR _ _ u2 M.stmts from hlt2).form;have hA := (Same.refl (fun _ => True) w4).alloc (.cells #[.int .i64 M.mode, .int .i64 M.n, .slice A2 M.stmts.length d2] 25);have hs2 := hS.trans hA;have k0 := hs2.cell (p := ⟨w1.heap.size, 0, none⟩) tv c0;have k1 := hs2.cell (p := ⟨w1.heap.size, 1, none⟩) tv c1;have k2 := hs2.cell (p := ⟨w1.heap.size, 2, none⟩) tv c2;have HL := LH (HL.out.keepAll stK hs2);have HE := LH (HE.out.keepAll hs2);have HS := LH (HS.out.trans hs2);clear hlt2 hS hA hs2 c0 c1 c2 hp2;go_wp2_with (go_at_call 18; refine stopAt ?_);unfold Hid;refine (may_any L (.slice A L.stmts.length c) _ HL.out HE.out.max).mono ?_;rw [HMy.out];rintro e w5 ⟨rfl, hS⟩;have HS := LH (HS.out.trans hS);clear hS;go_wp2;go_ret;exact ⟨rfl, HS.out⟩
end Go.Proofs.YtdfojghhpdkpfaaGreatDoor
namespace Go.Proofs.YtdfojghhpdkpfaaGreatDoor
open Go.RowKit Go.ChangeShapes Go.WideShapes Go.ChangeAt
/-- Which cells of type t read as which data; kept while the blocks of S stay. -/
structure Codec (P : Program) (t : TypeId) (α : Type) where
 ok : World → (Nat → Prop) → List Value → α → Prop
 keep : ∀ {S : Nat → Prop} {w w' : World} {vs : List Value} {x : α}, Same S w w' → ok w S vs x → ok w' S vs x
 size : ∀ {S : Nat → Prop} {w : World} {vs : List Value} {x : α}, ok w S vs x → vs.length = P.cellsOf t
 opens : ∀ {H : Type} {enc : TypeId × Value → H} {W : World} {fuel : Nat} {cs : List Value} {x : DataW H × List MemPlace},
  DataW.trod enc P W 0 (fun _ => true) true fuel t cs = some x → ∃ a, ok W (· < W.heap.size) cs a
section
variable {P : Program} {t e : TypeId} {α β : Type}
def cInt (k : IntKind) (ht : P.underlying t = some (.int k)) (hc : P.cellsOf t = 1) : Codec P t Int where
 ok _ _ vs n := vs = [.int k n] ∧ (Lit.int k n).wf = true
 keep _ h := h
 size h := by rw [h.1, hc]; rfl
 opens h := by
  obtain ⟨n, h1, _, h2⟩ := DataW.trod_int ht h;exact ⟨n, h1, h2⟩
def cBool (ht : P.underlying t = some .bool) (hc : P.cellsOf t = 1) : Codec P t Bool where
 ok _ _ vs b := vs = [.bool b]
 keep _ h := h
 size h := by rw [h, hc]; rfl
 opens h := by
  obtain ⟨n, h1, _⟩ := DataW.trod_bool ht h;exact ⟨n, h1⟩
def cStr (ht : P.underlying t = some .string) (hc : P.cellsOf t = 1) : Codec P t (List UInt8) where
 ok _ _ vs l := vs = [.string (str l)] ∧ l.length ≤ maxLen
 keep _ h := h
 size h := by rw [h.1, hc]; rfl
 opens h := by
  obtain ⟨s, h1, _, h2⟩ := DataW.trod_string ht h;exact ⟨s.data.toList, by rw [h1, ← str_get], by rw [Array.length_toList]; exact h2⟩
/-- A slice of whatever reads: the element i lies at i rows behind the head. -/
def SlOf (C : Codec P e α) (w : World) (S : Nat → Prop) (v : Value) (xs : List α) : Prop :=
 ∃ A c, v = .slice A xs.length c ∧ xs.length ≤ c ∧ c ≤ maxLen ∧
  ∀ i x, xs[i]? = some x → ∃ ad us, A = some ad ∧ S ad.block ∧ (∀ j u, us[j]? = some u → w.cell? (ad.add (i * P.cellsOf e + j)) = some u) ∧ C.ok w S us x
theorem SlOf.keep {C : Codec P e α} {w w' : World} {S : Nat → Prop} {v : Value} {xs : List α} (h : SlOf C w S v xs) (hs : Same S w w') : SlOf C w' S v xs := by
 obtain ⟨A, c, h1, h2, h3, h4⟩ := h;refine ⟨A, c, h1, h2, h3, fun i x hx => ?_⟩;obtain ⟨ad, us, a1, a2, a3, a4⟩ := h4 i x hx;exact ⟨ad, us, a1, a2, fun j u hu => hs.cell (by rw [block_of_add]; exact a2) (a3 j u hu), C.keep hs a4⟩
theorem SlOf.opens {C : Codec P e α} (ht : P.underlying t = some (.slice e)) (hc : 0 < P.cellsOf e) {H : Type} {enc : TypeId × Value → H} {W : World} {fuel : Nat} {cs : List Value} {x : DataW H × List MemPlace}
  (h : DataW.trod enc P W 0 (fun _ => true) true fuel t cs = some x) : ∃ v xs, cs = [v] ∧ SlOf C W (· < W.heap.size) v xs := by
 rcases Go.Deep.open_slice ht h with ⟨rfl, _⟩ | ⟨a, len, cap, m, n, D, Pl, rfl, _, hl, hm, hmm, _, hel⟩
 ·exact ⟨_, [], rfl, none, 0, rfl, Nat.le_refl _, by simp [maxLen], fun i x hx => by simp at hx⟩
 ·simp only [if_true] at hmm;subst hmm
  have each : ∀ i, i < len → ∃ p : List Value × α, (∀ j u, p.1[j]? = some u → W.cell? (a.add (i * P.cellsOf e + j)) = some u) ∧ C.ok W (· < W.heap.size) p.1 p.2 := by
   intro i hi;obtain ⟨cs', hcs, htr⟩ := hel i (by omega);obtain ⟨y, hy⟩ := C.opens htr;obtain ⟨_, hlen, hat⟩ := World.cells?_some hcs;refine ⟨(cs', y), fun j u hu => ?_, hy⟩
   have hj : j < cs'.length := by
    rcases Nat.lt_or_ge j cs'.length with h | h
    ·exact h
    ·rw [List.getElem?_eq_none h] at hu; cases hu
   have := hat j (by omega);rw [← add_of_add, this];exact hu
  rcases Nat.eq_zero_or_pos len with h0 | h0
  ·subst h0;exact ⟨_, [], rfl, some a, m, rfl, by simp, hm, fun i x hx => by simp at hx⟩
  obtain ⟨p0, _⟩ := each 0 h0;haveI : Inhabited (List Value × α) := ⟨p0⟩;obtain ⟨F, hF⟩ := Go.Deep.choose_lt each;refine ⟨_, (List.range len).map fun i => (F i).2, rfl, some a, m, by simp, by simpa using hl, hm, fun i x hx => ?_⟩;by_cases hi : i < len
  ·simp [hi] at hx;subst hx;obtain ⟨h1, h2⟩ := hF i hi;refine ⟨a, (F i).1, rfl, ?_, h1, h2⟩;have hz := C.size h2;have := World.block_lt_of_cell? W _ (h1 0 _ (List.getElem?_eq_getElem (by omega)));rw [block_of_add] at this;exact this
  ·simp [hi] at hx
/-- The fields of a struct. -/
structure FCod (P : Program) (fs : List Field) (α : Type) where
 ok : World → (Nat → Prop) → List Value → α → Prop
 keep : ∀ {S : Nat → Prop} {w w' : World} {vs : List Value} {x : α}, Same S w w' → ok w S vs x → ok w' S vs x
 opens : ∀ {H : Type} {enc : TypeId × Value → H} {W : World} {n : Nat} {cs : List Value},
  (∀ f, f ∈ fs → ∃ y, DataW.trod enc P W 0 (fun _ => true) true n f.type ((cs.drop f.offset).take (P.cellsOf f.type)) = some y) → ∃ a, ok W (· < W.heap.size) cs a
def fnil : FCod P [] Unit where
 ok _ _ _ _ := True
 keep _ h := h
 opens _ := ⟨(), tv⟩
def fcons (off n : Nat) {f : Field} {fs : List Field} (C : Codec P f.type α) (R : FCod P fs β) (ho : f.offset = off := by rfl) (hn : P.cellsOf f.type = n := by kernel_rfl) : FCod P (f :: fs) (α × β) where
 ok w S vs x := C.ok w S ((vs.drop off).take n) x.1 ∧ R.ok w S vs x.2
 keep hs h := ⟨C.keep hs h.1, R.keep hs h.2⟩
 opens h := by
  obtain ⟨y, hy⟩ := h f (by simp);rw [ho, hn] at hy;obtain ⟨a, ha⟩ := C.opens hy;obtain ⟨b, hb⟩ := R.opens (fun g hg => h g (by simp [hg]));exact ⟨(a, b), ha, hb⟩
def cStruct {fs : Array Field} (R : FCod P fs.toList β) (F : β → α) (ht : P.underlying t = some (.struct fs)) : Codec P t α where
 ok w S vs x := vs.length = P.cellsOf t ∧ ∃ b, x = F b ∧ R.ok w S vs b
 keep hs h := by
  obtain ⟨h0, b, h1, h2⟩ := h;exact ⟨h0, b, h1, R.keep hs h2⟩
 size h := h.1
 opens h := by
  obtain ⟨xs, n, _, _, h1, h2, h3⟩ := DataW.trod_struct ht h
  obtain ⟨b, hb⟩ := R.opens (enc := _) (n := n) (fun f hf => by
   obtain ⟨i, hi, rfl⟩ := List.mem_iff_getElem.1 hf;have hi' : i < fs.size := by simpa using hi
   have := h3 i fs[i] (by simp [hi']);refine ⟨xs[i]'(by omega), ?_⟩;rw [List.getElem?_eq_getElem (by omega)] at this
   exact this)
  exact ⟨F b, h1, b, rfl, hb⟩
end
set_option maxRecDepth 100000 in
set_option maxHeartbeats 1000000 in
theorem ls_opens {H : Type} {enc : TypeId × Value → H} {W : World} {α β : Type} {cs : β × α → List Value} {n : Nat} (hn : 0 < n) (hlen : ∀ p, (cs p).length = n) {ts te : TypeId} (hu : Tryz.prog.underlying ts = some (.slice te))
  (hce : Tryz.prog.cellsOf te = n) {ok : World → (Nat → Prop) → β → α → Prop} {Q : α → Prop} {fuel : Nat} {v : Value} {x : DataW H × List MemPlace}
  (hop : ∀ m, m < fuel → ∀ (ws : List Value) (y : DataW H × List MemPlace), DataW.trod enc Tryz.prog W 0 (fun _ => true) true m te ws = some y → ∃ u a, ws = cs (u, a) ∧ ok W (· < W.heap.size) u a ∧ Q a)
  (h : DataW.trod enc Tryz.prog W 0 (fun _ => true) true fuel ts [v] = some x) : ∃ l, LsR cs n ok W (· < W.heap.size) v l ∧ ∀ a ∈ l, Q a := by
 rcases DataW.trod_slice hu h with ⟨h0, -⟩ | ⟨a, len, cap, elems, rest, n', rfl, h0, -, -, hl, hm, hel, heach, -, -⟩
 ·simp only [List.cons.injEq, and_true] at h0;subst h0;exact ⟨[], LsR.nil W _, fun a ha => by cases ha⟩
 ·simp only [List.cons.injEq, and_true] at h0;subst h0
  have each : ∀ i, i < len → ∃ p : β × α, (∀ j y, (cs p)[j]? = some y → W.cell? (a.add (i * n + j)) = some y) ∧ ok W (· < W.heap.size) p.1 p.2 ∧ Q p.2 := by
   intro i hi;have hb := heach i hi;rw [List.getElem?_eq_getElem (by omega), hce] at hb;obtain ⟨cs', hcs, htr⟩ := Option.bind_eq_some_iff.1 hb;obtain ⟨u, e, rfl, hr, hi'⟩ := hop n' (by omega) cs' _ htr;obtain ⟨_, hlen', hat⟩ := World.cells?_some hcs;refine ⟨(u, e), fun j y hy => ?_, hr, hi'⟩
   have hj : j < n := by
    have := (List.getElem?_eq_some_iff.1 hy).1;rwa [hlen] at this
   rw [← add_of_add, hat j hj];exact hy
  rcases Nat.eq_zero_or_pos len with h0 | h0
  ·subst h0;exact ⟨[], ⟨[], rfl, ⟨some a, cap, rfl, by simp, hm, by simpa using Sl.nil W _ n (some a)⟩, fun i u e h => by simp at h⟩, fun a ha => by cases ha⟩
  obtain ⟨p0, hp0⟩ := each 0 h0;haveI : Inhabited (β × α) := ⟨p0⟩;obtain ⟨F, hF⟩ := Go.Deep.choose_lt each
  have hab : a.block < W.heap.size := by
   have hl0 : 0 < (cs (F 0)).length := by rw [hlen]; exact hn
   have := World.block_lt_of_cell? W _ ((hF 0 h0).1 0 _ (List.getElem?_eq_getElem hl0));rwa [block_of_add] at this
  obtain ⟨us, hus⟩ : ∃ us, us = (List.range len).map fun i => (F i).1 := ⟨_, rfl⟩
  obtain ⟨l, hll⟩ : ∃ l, l = (List.range len).map fun i => (F i).2 := ⟨_, rfl⟩
  have hul : us.length = len := by rw [hus]; simp
  have hl' : l.length = len := by rw [hll]; simp
  have hz : (us.zip l).length = len := by simp [hul, hl']
  have hget : ∀ i (h : i < len), us[i]? = some (F i).1 ∧ l[i]? = some (F i).2 := fun i h => by rw [hus, hll]; simp [h]
  have hfl : ((us.zip l).flatMap cs).length = len * n := by rw [flat_len cs n hlen, hz]
  refine ⟨l, ⟨us, by omega, ⟨some a, cap, by rw [hz], by omega, hm, ⟨by rw [hfl, hz], fun _ => ⟨a, rfl, hab, fun j y hy => ?_⟩⟩⟩, fun i u e h1 h2 => ?_⟩, fun b hb => ?_⟩
  ·have hj : j < len * n := by
    have := (List.getElem?_eq_some_iff.1 hy).1;rwa [hfl] at this
   have hi : j / n < len := (Nat.div_lt_iff_lt_mul hn).2 hj;have hjd : j / n * n + j % n = j := Nat.div_add_mod' j n;have e3 := flat_at cs n hlen (us.zip l) (j / n) (j % n) (by omega) (Nat.mod_lt _ hn);rw [hjd, hy] at e3
   have e4 : (us.zip l)[j / n]'(by omega) = F (j / n) := by
    have h1 := (hget (j / n) hi).1;have h2 := (hget (j / n) hi).2;rw [List.getElem?_eq_getElem (by omega)] at h1 h2;injection h1 with h1;injection h2 with h2;rw [List.getElem_zip, h1, h2]
   rw [e4] at e3;have := (hF (j / n) hi).1 (j % n) y e3.symm;rwa [hjd] at this
  ·have hi : i < len := by
    have := (List.getElem?_eq_some_iff.1 h1).1;omega
   obtain ⟨g1, g2⟩ := hget i hi;have h1 : (F i).1 = u := Option.some.inj (g1.symm.trans h1);have h2 : (F i).2 = e := Option.some.inj (g2.symm.trans h2);rw [← h1, ← h2];exact (hF i hi).2.1
  ·obtain ⟨i, hi, rfl⟩ := List.mem_iff_getElem.1 hb;have hi' : i < len := by omega
   have h2 := (hget i hi').2;rw [List.getElem?_eq_getElem hi] at h2;injection h2 with h2;rw [h2];exact (hF i hi').2.2
def cI : Codec Tryz.prog 3 Int := cInt .i64 Tryz.underlying3 (by kernel_rfl)
def cJ : Codec Tryz.prog 2 Int := cInt .i64 Tryz.underlying2 (by kernel_rfl)
def cO : Codec Tryz.prog 4 Bool := cBool Tryz.underlying4 (by kernel_rfl)
def cS : Codec Tryz.prog 9 (List UInt8) := cStr Tryz.underlying9 (by kernel_rfl)
set_option maxRecDepth 100000 in
def cVal : Codec Tryz.prog 31 Val :=
 cStruct (fcons 0 1 cI (fcons 1 1 cJ (fcons 2 1 cS fnil))) (fun x => ⟨x.1, x.2.1, x.2.2.1⟩) Tryz.underlying31
theorem wf_i64B {n : Int} (h : (Lit.int .i64 n).wf = true) : i64B n = true := by
 have := i64_of_wf h;simpa [i64B] using this
theorem cVal_ok {w : World} {S : Nat → Prop} {vs : List Value} {t : Val} (h : cVal.ok w S vs t) : vs = valCs t ∧ i64B t.n = true ∧ t.s.length ≤ maxLen := by
 obtain ⟨hlen, ⟨x0, x1, x2, x3⟩, hx, ⟨h0, k0⟩, ⟨h1, k1⟩, ⟨h2, k2⟩, -⟩ := h;have hlen : vs.length = 3 := hlen.trans (by kernel_rfl)
 match vs, hlen with
 | [a0, a1, a2], _ =>
  obtain rfl := (List.cons.inj h0).1;obtain rfl := (List.cons.inj h1).1;obtain rfl := (List.cons.inj h2).1;subst hx;exact ⟨rfl, wf_i64B k1, k2⟩
theorem agg_of {v : Value} {l : List Value} (h : v.cells.toList = l) (hl : 2 ≤ l.length) : v = .agg l.toArray := by
 cases v <;> first
  | (simp [Value.cells] at h; subst h; simp at hl; done)
  | (simp [Value.cells] at h; subst h; simp)
section
variable {H : Type} {enc : TypeId × Value → H} {W : World}
theorem ExR.mk_ {W : World} {S : Nat → Prop} {k : Int} {s : List UInt8} {v : Val} {u : Value} {l : List Ex} (h : LsR exCsP 6 ExR W S u l) : ExR W S u (.mk k s v l) := by
 obtain ⟨us, h1, ⟨A, c, rfl, h3, h4, h5⟩, h6⟩ := h;have hz : (us.zip l).length = l.length := by simp [h1]
 rw [hz] at h3 h5 ⊢;exact .mk k s v l us A c h1 h3 h4 h5 h6
set_option maxRecDepth 100000 in
theorem ex_opens : ∀ (fuel : Nat) (cs : List Value) (x : DataW H × List MemPlace), DataW.trod enc Tryz.prog W 0 (fun _ => true) true fuel 34 cs = some x → ∃ u e, cs = exCs u e ∧ ExR W (· < W.heap.size) u e ∧ ExI e := by
 intro fuel
 induction fuel using Nat.strongRecOn with
 | ind fuel ih =>
 intro cs x h;obtain ⟨xs, n, hn, _, hlen, hxl, hf⟩ := DataW.trod_struct Tryz.underlying34 h;have hlen : cs.length = 6 := hlen.trans (by kernel_rfl);have hxl : xs.length = 4 := hxl
 match cs, hlen with
 | [a0, a1, a2, a3, a4, a5], _ =>
 have f0 := hf 0 _ rfl;have f1 := hf 1 _ rfl;have f2 := hf 2 _ rfl;have f3 := hf 3 _ rfl;rw [List.getElem?_eq_getElem (by omega)] at f0 f1 f2 f3;have f0 : DataW.trod enc Tryz.prog W 0 (fun _ => true) true n 3 [a0] = some xs[0] := f0;have f1 : DataW.trod enc Tryz.prog W 0 (fun _ => true) true n 9 [a1] = some xs[1] := f1;have f2 : DataW.trod enc Tryz.prog W 0 (fun _ => true) true n 31 [a2, a3, a4] = some xs[2] := f2;have f3 : DataW.trod enc Tryz.prog W 0 (fun _ => true) true n 32 [a5] = some xs[3] := f3;obtain ⟨k, hk, -⟩ := cI.opens f0;obtain ⟨s, hs, -⟩ := cS.opens f1;obtain ⟨v, hv⟩ := cVal.opens f2;obtain ⟨hv, hvi, -⟩ := cVal_ok hv;simp only [valCs, List.cons.injEq, and_true] at hk hs hv;obtain ⟨rfl, rfl, rfl⟩ := hv;subst hk hs;obtain ⟨l, hl, hq⟩ := ls_opens (cs := exCsP) (n := 6) (ok := ExR) (Q := ExI) (by omega) (fun _ => rfl) Tryz.underlying32 (by kernel_rfl) (fun m hm ws y hy => ih m (by omega) ws y hy) f3;exact ⟨a5, .mk k s v l, rfl, ExR.mk_ hl, .mk hvi hq⟩
set_option maxRecDepth 100000 in
theorem it_opens (fuel : Nat) (cs : List Value) (x : DataW H × List MemPlace) (h : DataW.trod enc Tryz.prog W 0 (fun _ => true) true fuel 63 cs = some x) : ∃ u a, cs = itCs (u, a) ∧ itOk W (· < W.heap.size) u a ∧ ExI a.e := by
 obtain ⟨xs, n, hn, _, hlen, hxl, hf⟩ := DataW.trod_struct Tryz.underlying63 h;have hlen : cs.length = 7 := hlen.trans (by kernel_rfl);have hxl : xs.length = 2 := hxl
 match cs, hlen with
 | [a0, a1, a2, a3, a4, a5, a6], _ =>
 have f0 := hf 0 _ rfl;have f1 := hf 1 _ rfl;rw [List.getElem?_eq_getElem (by omega)] at f0 f1;have f0 : DataW.trod enc Tryz.prog W 0 (fun _ => true) true n 3 [a0] = some xs[0] := f0;have f1 : DataW.trod enc Tryz.prog W 0 (fun _ => true) true n 34 [a1, a2, a3, a4, a5, a6] = some xs[1] := f1;obtain ⟨k, hk, -⟩ := cI.opens f0;obtain ⟨u, e, he, hr, hi⟩ := ex_opens _ _ _ f1;simp only [List.cons.injEq, and_true] at hk;subst hk;exact ⟨u, ⟨k, e⟩, by rw [he]; rfl, hr, hi⟩
set_option maxRecDepth 100000 in
theorem as_opens (fuel : Nat) (cs : List Value) (x : DataW H × List MemPlace) (h : DataW.trod enc Tryz.prog W 0 (fun _ => true) true fuel 65 cs = some x) : ∃ u a, cs = asCs (u, a) ∧ asOk W (· < W.heap.size) u a ∧ ExI a.e := by
 obtain ⟨xs, n, hn, _, hlen, hxl, hf⟩ := DataW.trod_struct Tryz.underlying65 h;have hlen : cs.length = 7 := hlen.trans (by kernel_rfl);have hxl : xs.length = 2 := hxl
 match cs, hlen with
 | [a0, a1, a2, a3, a4, a5, a6], _ =>
 have f0 := hf 0 _ rfl;have f1 := hf 1 _ rfl;rw [List.getElem?_eq_getElem (by omega)] at f0 f1;have f0 : DataW.trod enc Tryz.prog W 0 (fun _ => true) true n 9 [a0] = some xs[0] := f0;have f1 : DataW.trod enc Tryz.prog W 0 (fun _ => true) true n 34 [a1, a2, a3, a4, a5, a6] = some xs[1] := f1;obtain ⟨k, hk, -⟩ := cS.opens f0;obtain ⟨u, e, he, hr, hi⟩ := ex_opens _ _ _ f1;simp only [List.cons.injEq, and_true] at hk;subst hk;exact ⟨u, ⟨k, e⟩, by rw [he]; rfl, hr, hi⟩
set_option maxRecDepth 100000 in
theorem rw_opens (fuel : Nat) (cs : List Value) (x : DataW H × List MemPlace) (h : DataW.trod enc Tryz.prog W 0 (fun _ => true) true fuel 32 cs = some x) : ∃ (u : Value) (a : List Ex), cs = rwCs (u, a) ∧ rwOk W (· < W.heap.size) u a ∧ ∀ e ∈ a, ExI e := by
 have hc : ∃ v, cs = [v] := by
  rcases DataW.trod_slice Tryz.underlying32 h with ⟨h0, -⟩ | ⟨a, len, cap, elems, rest, n', _, h0, -⟩
  ·exact ⟨_, h0⟩
  ·exact ⟨_, h0⟩
 obtain ⟨v, rfl⟩ := hc;obtain ⟨l, hl, hq⟩ := ls_opens (cs := exCsP) (n := 6) (ok := ExR) (Q := ExI) (by omega) (fun _ => rfl) Tryz.underlying32 (by kernel_rfl) (fun m hm ws y hy => ex_opens m ws y hy) h;exact ⟨v, l, rfl, (ExR.mk_ (k := 0) (s := []) (v := .zero) hl).toL, hq⟩
set_option maxRecDepth 100000 in
set_option maxHeartbeats 1000000 in
theorem st_opens (fuel : Nat) (cs : List Value) (x : DataW H × List MemPlace) (h : DataW.trod enc Tryz.prog W 0 (fun _ => true) true fuel 44 cs = some x) : ∃ u a, cs = stCsP (u, a) ∧ StR W (· < W.heap.size) u a ∧ StI a := by
 obtain ⟨xs, n, hn, _, hlen, hxl, hf⟩ := DataW.trod_struct Tryz.underlying44 h;have hlen : cs.length = 15 := hlen.trans (by kernel_rfl);have hxl : xs.length = 10 := hxl
 match cs, hlen with
 | [a0, a1, a2, a3, a4, a5, a6, a7, a8, a9, a10, a11, a12, a13, a14], _ =>
 have f0 := hf 0 _ rfl;have f1 := hf 1 _ rfl;have f2 := hf 2 _ rfl;have f3 := hf 3 _ rfl;have f4 := hf 4 _ rfl;have f5 := hf 5 _ rfl;have f6 := hf 6 _ rfl;have f7 := hf 7 _ rfl;have f8 := hf 8 _ rfl;have f9 := hf 9 _ rfl;rw [List.getElem?_eq_getElem (by omega)] at f0 f1 f2 f3 f4 f5 f6 f7 f8 f9;have f0 : DataW.trod enc Tryz.prog W 0 (fun _ => true) true n 3 [a0] = some xs[0] := f0;have f1 : DataW.trod enc Tryz.prog W 0 (fun _ => true) true n 9 [a1] = some xs[1] := f1;have f2 : DataW.trod enc Tryz.prog W 0 (fun _ => true) true n 40 [a2] = some xs[2] := f2;have f3 : DataW.trod enc Tryz.prog W 0 (fun _ => true) true n 41 [a3] = some xs[3] := f3;have f4 : DataW.trod enc Tryz.prog W 0 (fun _ => true) true n 42 [a4] = some xs[4] := f4;have f5 : DataW.trod enc Tryz.prog W 0 (fun _ => true) true n 4 [a5] = some xs[5] := f5;have f6 : DataW.trod enc Tryz.prog W 0 (fun _ => true) true n 34 [a6, a7, a8, a9, a10, a11] = some xs[6] := f6;have f7 : DataW.trod enc Tryz.prog W 0 (fun _ => true) true n 9 [a12] = some xs[7] := f7;have f8 : DataW.trod enc Tryz.prog W 0 (fun _ => true) true n 4 [a13] = some xs[8] := f8;have f9 : DataW.trod enc Tryz.prog W 0 (fun _ => true) true n 2 [a14] = some xs[9] := f9;obtain ⟨k, hk, -⟩ := cI.opens f0;obtain ⟨t, ht, -⟩ := cS.opens f1;obtain ⟨is, his, hiq⟩ := ls_opens (cs := itCs) (n := 7) (ok := itOk) (Q := fun a : Itm => ExI a.e) (by omega) (fun _ => rfl) Tryz.underlying40 (by kernel_rfl) (fun m hm ws y hy => it_opens m ws y hy) f2;obtain ⟨rs, hrs, hrq⟩ := ls_opens (cs := rwCs) (n := 1) (ok := rwOk) (Q := fun a : List Ex => ∀ e ∈ a, ExI e) (by omega) (fun _ => rfl) Tryz.underlying41 (by kernel_rfl) (fun m hm ws y hy => rw_opens m ws y hy) f3;obtain ⟨ss, hss, hsq⟩ := ls_opens (cs := asCs) (n := 7) (ok := asOk) (Q := fun a : Asn => ExI a.e) (by omega) (fun _ => rfl) Tryz.underlying42 (by kernel_rfl) (fun m hm ws y hy => as_opens m ws y hy) f4;obtain ⟨b, hb⟩ := cO.opens f5;have hb : [a5] = [.bool b] := hb;obtain ⟨u, e, he, hr, hi⟩ := ex_opens _ _ _ f6;obtain ⟨o, ho, -⟩ := cS.opens f7;obtain ⟨d, hd⟩ := cO.opens f8;have hd : [a13] = [.bool d] := hd;obtain ⟨z, hz, kz⟩ := cJ.opens f9;simp only [List.cons.injEq, and_true] at hk ht hb ho hd hz;subst hk ht hb ho hd hz;simp only [exCs, List.cons.injEq, and_true] at he;obtain ⟨rfl, rfl, rfl, rfl, rfl, rfl⟩ := he;exact ⟨⟨a2, a3, a4, _⟩, ⟨k, t, is, rs, ss, b, e, o, d, z⟩, rfl, ⟨his, hrs, hss, hr⟩, ⟨hiq, hrq, hsq, hi, wf_i64B kz⟩⟩
set_option maxRecDepth 100000 in
theorem open_lot {base : Nat} {v : Value} {d : DataW H} {ps : List MemPlace} (h : DataW.Trod enc Tryz.prog W 0 (fun _ => true) true 25 v d ps) : ∃ u l, v = ltV u l ∧ LtR W (fun _ => True) u l ∧ LotI l := by
 obtain ⟨fuel, hfu⟩ := h;obtain ⟨xs, n, hn, _, hlen, hxl, hf⟩ := DataW.trod_struct Tryz.underlying25 hfu;have hlen : v.cells.toList.length = 3 := hlen.trans (by kernel_rfl);have hxl : xs.length = 3 := hxl;obtain ⟨cs, hcs⟩ : ∃ cs, cs = v.cells.toList := ⟨_, rfl⟩;rw [← hcs] at hlen hf
 match cs, hlen, hcs with
 | [a0, a1, a2], _, hcs =>
 have f0 := hf 0 _ rfl;have f1 := hf 1 _ rfl;have f2 := hf 2 _ rfl;rw [List.getElem?_eq_getElem (by omega)] at f0 f1 f2;have f0 : DataW.trod enc Tryz.prog W 0 (fun _ => true) true n 3 [a0] = some xs[0] := f0;have f1 : DataW.trod enc Tryz.prog W 0 (fun _ => true) true n 2 [a1] = some xs[1] := f1;have f2 : DataW.trod enc Tryz.prog W 0 (fun _ => true) true n 23 [a2] = some xs[2] := f2;obtain ⟨k, hk, -⟩ := cI.opens f0;obtain ⟨z, hz, kz⟩ := cJ.opens f1;obtain ⟨ss, hss, hsq⟩ := ls_opens (cs := stCsP) (n := 15) (ok := StR) (Q := StI) (by omega) (fun _ => rfl) Tryz.underlying23 (by kernel_rfl) (fun m hm ws y hy => st_opens m ws y hy) f2;simp only [List.cons.injEq, and_true] at hk hz;subst hk hz;exact ⟨a2, ⟨k, z, ss⟩, agg_of hcs.symm (by simp), LsR.mono stK (by omega) hss (fun _ _ _ => tv), ⟨wf_i64B kz, hsq⟩⟩
end
end Go.Proofs.YtdfojghhpdkpfaaGreatDoor
namespace Go.Proofs.YtdfojghhpdkpfaaGreatDoor
open Go.RowKit
set_option maxRecDepth 100000 in
set_option maxHeartbeats 16000000 in
theorem prints_walk (l m : LotM) (u u' : Value) (w : World) (hI : LotI l) (h : LtR w (fun _ => True) u l) (h' : LtR w (fun _ => True) u' m) (hE : EnvT w) :
  Calls Tryz.prog 5 #[ltV u l, ltV u' m] w fun e w' => e = .returned (.bool true) ∧ Same (fun _ => True) w w' := by
 obtain ⟨A, c, rfl, -, -⟩ := (show LsR stCsP 15 StR _ _ u l.stmts from h).form;obtain ⟨A', c', rfl, -, -⟩ := (show LsR stCsP 15 StR _ _ u' m.stmts from h').form;have hA := (Same.refl (fun _ => True) w).alloc (.cells #[.int .i64 l.mode, .int .i64 l.n, .slice A l.stmts.length c] 25);have hB := (Same.refl (fun _ => True) (w.alloc (.cells #[.int .i64 l.mode, .int .i64 l.n, .slice A l.stmts.length c] 25))).alloc (.cells #[.int .i64 m.mode, .int .i64 m.n, .slice A' m.stmts.length c'] 25);have hr1 := (Row.new w 25 [.int .i64 l.mode, .int .i64 l.n, .slice A l.stmts.length c]).keep hB tv;have hr2 := Row.new (w.alloc (.cells #[.int .i64 l.mode, .int .i64 l.n, .slice A l.stmts.length c] 25)) 25 [.int .i64 m.mode, .int .i64 m.n, .slice A' m.stmts.length c'];rw [World.size_alloc] at hr2;have hs := hA.trans hB;have hl := LsR.keepAll stK (show LsR stCsP 15 StR _ _ (.slice A l.stmts.length c) l.stmts from h) hs;have hl' := LsR.keepAll stK (show LsR stCsP 15 StR _ _ (.slice A' m.stmts.length c') m.stmts from h') hs;have he := hE.keepAll hs;clear h h' hE hA hB;go_enter Tryz.func5, Tryz.ntmps5;go_upto_region 1 with (fail);revert hr1 hr2 hs hl hl' he;generalize (w.alloc _).alloc _ = w1;generalize w.heap.size = g;intro hr1 hr2 hs hl hl' he;have HL1 := LH hl;have HL2 := LH hl';have HR1 := LH hr1;have HR2 := LH hr2;have HS := LH hs;have HE := LH he;clear hr1 hr2 hs hl hl' he;obtain ⟨c0, c1, c2⟩ := CN3 HR1.out;obtain ⟨d0, d1, d2⟩ := CN3 HR2.out;go_wp2_with (go_at_call 9; refine stopAt ?_);unfold Hid;refine (show Calls _ _ _ _ _ from begun_any _ HE.out).mono ?_;rintro e wq ⟨rfl, hS⟩;have HR1 := LH (HR1.out.keep hS tv);have HR2 := LH (HR2.out.keep hS tv);have HL1 := LH (HL1.out.keepAll stK hS);have HL2 := LH (HL2.out.keepAll stK hS);have HE := LH (HE.out.keepAll hS);have HS := LH (HS.out.trans hS);clear hS c0 c1 c2 d0 d1 d2;obtain ⟨c0, c1, c2⟩ := CN3 HR1.out;obtain ⟨d0, d1, d2⟩ := CN3 HR2.out;go_wp2_with (go_at_call 15; refine stopAt ?_);unfold Hid;refine (show Calls _ _ _ _ _ from light_any l (.slice A l.stmts.length c) _ HL1.out).mono ?_;rintro e wq ⟨⟨b1, rfl⟩, hS⟩;have HR1 := LH (HR1.out.keep hS tv);have HR2 := LH (HR2.out.keep hS tv);have HL1 := LH (HL1.out.keepAll stK hS);have HL2 := LH (HL2.out.keepAll stK hS);have HE := LH (HE.out.keepAll hS);have HS := LH (HS.out.trans hS);clear hS c0 c1 c2 d0 d1 d2;obtain ⟨c0, c1, c2⟩ := CN3 HR1.out;obtain ⟨d0, d1, d2⟩ := CN3 HR2.out;cases b1
 ·go_wp2;go_ret;exact ⟨rfl, HS.out⟩
 go_wp2_with (go_at_call 15; refine stopAt ?_);unfold Hid;refine (show Calls _ _ _ _ _ from light_any m (.slice A' m.stmts.length c') _ HL2.out).mono ?_;rintro e wq ⟨⟨b2, rfl⟩, hS⟩;have HR1 := LH (HR1.out.keep hS tv);have HR2 := LH (HR2.out.keep hS tv);have HL1 := LH (HL1.out.keepAll stK hS);have HL2 := LH (HL2.out.keepAll stK hS);have HE := LH (HE.out.keepAll hS);have HS := LH (HS.out.trans hS);clear hS c0 c1 c2 d0 d1 d2;obtain ⟨c0, c1, c2⟩ := CN3 HR1.out;obtain ⟨d0, d1, d2⟩ := CN3 HR2.out;cases b2
 ·go_wp2;go_ret;exact ⟨rfl, HS.out⟩
 go_wp2_with (go_at_call 16; refine stopAt ?_);unfold Hid;refine (show Calls _ _ _ _ _ from print_any l (.slice A l.stmts.length c) _ hI HL1.out HE.out).mono ?_;rintro e wq ⟨rfl, hS⟩;have HR1 := LH (HR1.out.keep hS tv);have HR2 := LH (HR2.out.keep hS tv);have HL1 := LH (HL1.out.keepAll stK hS);have HL2 := LH (HL2.out.keepAll stK hS);have HE := LH (HE.out.keepAll hS);have HS := LH (HS.out.trans hS);clear hS c0 c1 c2 d0 d1 d2;obtain ⟨c0, c1, c2⟩ := CN3 HR1.out;obtain ⟨d0, d1, d2⟩ := CN3 HR2.out;go_wp2_with (go_at_call 17; refine stopAt ?_);unfold Hid;refine (show Calls _ _ _ _ _ from refprint_any l (.slice A l.stmts.length c) _ hI HL1.out).mono ?_;rintro e wq ⟨rfl, hS⟩;have HR1 := LH (HR1.out.keep hS tv);have HR2 := LH (HR2.out.keep hS tv);have HL1 := LH (HL1.out.keepAll stK hS);have HL2 := LH (HL2.out.keepAll stK hS);have HE := LH (HE.out.keepAll hS);have HS := LH (HS.out.trans hS);clear hS c0 c1 c2 d0 d1 d2;obtain ⟨c0, c1, c2⟩ := CN3 HR1.out;obtain ⟨d0, d1, d2⟩ := CN3 HR2.out;generalize printF l = r at *;obtain ⟨w9, h9⟩ : ∃ x, x = wq := ⟨_, rfl⟩;obtain ⟨bM, hM⟩ : ∃ b, b = mayLot l := ⟨_, rfl⟩;obtain ⟨bS, hB⟩ : ∃ b, b = sameLot l m := ⟨_, rfl⟩;have qM1 : ∀ W, Same (fun _ => True) wq W → Calls Tryz.prog 18 #[ltV (.slice A l.stmts.length c) l] W (BoolP bM W) := fun W h => hM ▸ may_any l _ W (HL1.out.keepAll stK h) (HE.out.keepAll h).max
 have qM2 : ∀ W, Same (fun _ => True) wq W → Calls Tryz.prog 19 #[ltV (.slice A l.stmts.length c) l] W (BoolP bM W) := fun W h => hM ▸ refmaylot_any l _ W (HL1.out.keepAll stK h)
 have qS1 : ∀ W, Same (fun _ => True) wq W → Calls Tryz.prog 20 #[ltV (.slice A l.stmts.length c) l, ltV (.slice A' m.stmts.length c') m] W (BoolP bS W) := fun W h => hB ▸ same_any l m _ _ W (HL1.out.keepAll stK h) (HL2.out.keepAll stK h)
 have qS2 : ∀ W, Same (fun _ => True) wq W → Calls Tryz.prog 21 #[ltV (.slice A l.stmts.length c) l, ltV (.slice A' m.stmts.length c') m] W (BoolP bS W) := fun W h => hB ▸ refsamelot_any l m _ _ W (HL1.out.keepAll stK h) (HL2.out.keepAll stK h)
 have qS3 : ∀ W, Same (fun _ => True) wq W → Calls Tryz.prog 20 #[ltV (.slice A l.stmts.length c) l, ltV (.slice A l.stmts.length c) l] W (BoolP true W) := fun W h => by
  have := same_any l l _ _ W (HL1.out.keepAll stK h) (HL1.out.keepAll stK h);rwa [sameLot_refl] at this
 clear hM hB h9;go_upto_region 7 with (fail);refine wp_region_eq_lit (vs := [(.string (str r.1)), (.string (str r.1)), (.bool true), (.bool true), (.int .i64 (r.2 : Int)), (.int .i64 (r.2 : Int)), (.bool true), (.bool true), (.bool true), (.agg #[.int .i64 l.mode, .int .i64 l.n, .slice A l.stmts.length c]), (.bool bM), (.agg #[.int .i64 l.mode, .int .i64 l.n, .slice A l.stmts.length c]), (.bool bM), (.bool true), (.bool true), (.bool true), (.agg #[.int .i64 l.mode, .int .i64 l.n, .slice A l.stmts.length c]), (.agg #[.int .i64 m.mode, .int .i64 m.n, .slice A' m.stmts.length c']), (.bool bS), (.agg #[.int .i64 l.mode, .int .i64 l.n, .slice A l.stmts.length c]), (.agg #[.int .i64 m.mode, .int .i64 m.n, .slice A' m.stmts.length c']), (.bool bS), (.bool true), (.bool true), (.bool true), (.agg #[.int .i64 l.mode, .int .i64 l.n, .slice A l.stmts.length c]), (.agg #[.int .i64 l.mode, .int .i64 l.n, .slice A l.stmts.length c]), (.bool true), (.bool true), (.bool true)]) (by kernel_rfl) (by kernel_rfl) rfl rfl ?_ ?_
 ·refine ⟨?_, ?_, ?_, ?_, ?_, ?_, ?_, ?_, ?_, ?_, ?_, ?_, ?_, ?_, ?_, ?_, ?_, ?_, ?_, ?_, ?_, ?_, ?_, ?_, ?_, ?_, ?_, ?_, ?_, ?_, tv⟩
  all_goals intro ac wc hs hd hz hf hw K hK
  ·have e0 := EV 5 (.string (str r.1)) (hf 5 rfl);clear hd hz hf hw;simp only [if_true, RL, e0];go_simp;exact hK _ _ rfl SR
  ·have e0 := EV 7 (.string (str r.1)) (hf 7 rfl);clear hd hz hf hw;simp only [if_true, RL, e0];go_simp;exact hK _ _ rfl SR
  ·have e0 := EV 29 (.string (str r.1)) (hw 0 rfl);have e1 := EV 30 (.string (str r.1)) (hw 1 rfl);clear hd hz hf hw;simp only [if_true, RL, e0, e1];go_simp;exact hK _ _ rfl SR
  ·have e0 := EV 31 (.bool true) (hw 2 rfl);clear hd hz hf hw;simp only [if_true, RL, e0];go_simp;exact hK _ _ rfl SR
  ·refine RW 3 32 true hz (hw 3 rfl) ?_;have e0 := EV 6 (.int .i64 (r.2 : Int)) (hf 6 rfl);clear hd hz hf hw;simp only [RL, e0];go_simp;exact hK _ _ rfl SR
  ·refine RW 3 32 true hz (hw 3 rfl) ?_;have e0 := EV 8 (.int .i64 (r.2 : Int)) (hf 8 rfl);clear hd hz hf hw;simp only [RL, e0];go_simp;exact hK _ _ rfl SR
  ·refine RW 3 32 true hz (hw 3 rfl) ?_;have e0 := EV 33 (.int .i64 (r.2 : Int)) (hw 4 rfl);have e1 := EV 34 (.int .i64 (r.2 : Int)) (hw 5 rfl);clear hd hz hf hw;simp only [RL, e0, e1];go_simp;exact hK _ _ rfl SR
  ·have e0 := EV 32 (.bool true) (hw 3 rfl);have e1 := EV 35 (.bool true) (hw 6 rfl);clear hd hz hf hw;simp only [if_true, RL, e0, e1];go_simp;exact hK _ _ rfl SR
  ·have e0 := EV 36 (.bool true) (hw 7 rfl);clear hd hz hf hw;simp only [if_true, RL, e0];go_simp;exact hK _ _ rfl SR
  ·refine RW 8 37 true hz (hw 8 rfl) ?_;have e0 := EP 2 g 0 (hf 2 rfl);have m0 := MC c0 hs tv;have m1 := MC c1 hs tv;have m2 := MC c2 hs tv;clear hd hz hf hw;simp only [RL, e0];go_simp;exact hK _ _ rfl SR
  ·refine RW 8 37 true hz (hw 8 rfl) ?_;have e0 := EV 38 (.agg #[.int .i64 l.mode, .int .i64 l.n, .slice A l.stmts.length c]) (hw 9 rfl);clear hd hz hf hw;simp only [RL, e0];go_simp;refine (qM1 _ hs).mono ?_;rintro e wd ⟨rfl, hS⟩;exact hK _ _ rfl hS
  ·refine RW 8 37 true hz (hw 8 rfl) ?_;have e0 := EP 2 g 0 (hf 2 rfl);have m0 := MC c0 hs tv;have m1 := MC c1 hs tv;have m2 := MC c2 hs tv;clear hd hz hf hw;simp only [RL, e0];go_simp;exact hK _ _ rfl SR
  ·refine RW 8 37 true hz (hw 8 rfl) ?_;have e0 := EV 40 (.agg #[.int .i64 l.mode, .int .i64 l.n, .slice A l.stmts.length c]) (hw 11 rfl);clear hd hz hf hw;simp only [RL, e0];go_simp;refine (qM2 _ hs).mono ?_;rintro e wd ⟨rfl, hS⟩;exact hK _ _ rfl hS
  ·refine RW 8 37 true hz (hw 8 rfl) ?_;have e0 := EV 39 (.bool bM) (hw 10 rfl);have e1 := EV 41 (.bool bM) (hw 12 rfl);clear hd hz hf hw;simp only [RL, e0, e1];go_simp;exact hK _ _ rfl SR
  ·have e0 := EV 37 (.bool true) (hw 8 rfl);have e1 := EV 42 (.bool true) (hw 13 rfl);clear hd hz hf hw;simp only [if_true, RL, e0, e1];go_simp;exact hK _ _ rfl SR
  ·have e0 := EV 43 (.bool true) (hw 14 rfl);clear hd hz hf hw;simp only [if_true, RL, e0];go_simp;exact hK _ _ rfl SR
  ·refine RW 15 44 true hz (hw 15 rfl) ?_;have e0 := EP 2 g 0 (hf 2 rfl);have m0 := MC c0 hs tv;have m1 := MC c1 hs tv;have m2 := MC c2 hs tv;clear hd hz hf hw;simp only [RL, e0];go_simp;exact hK _ _ rfl SR
  ·refine RW 15 44 true hz (hw 15 rfl) ?_;have e0 := EP 3 (g + 1) 0 (hf 3 rfl);have m0 := MC d0 hs tv;have m1 := MC d1 hs tv;have m2 := MC d2 hs tv;clear hd hz hf hw;simp only [RL, e0];go_simp;exact hK _ _ rfl SR
  ·refine RW 15 44 true hz (hw 15 rfl) ?_;have e0 := EV 45 (.agg #[.int .i64 l.mode, .int .i64 l.n, .slice A l.stmts.length c]) (hw 16 rfl);have e1 := EV 46 (.agg #[.int .i64 m.mode, .int .i64 m.n, .slice A' m.stmts.length c']) (hw 17 rfl);clear hd hz hf hw;simp only [RL, e0, e1];go_simp;refine (qS1 _ hs).mono ?_;rintro e wd ⟨rfl, hS⟩;exact hK _ _ rfl hS
  ·refine RW 15 44 true hz (hw 15 rfl) ?_;have e0 := EP 2 g 0 (hf 2 rfl);have m0 := MC c0 hs tv;have m1 := MC c1 hs tv;have m2 := MC c2 hs tv;clear hd hz hf hw;simp only [RL, e0];go_simp;exact hK _ _ rfl SR
  ·refine RW 15 44 true hz (hw 15 rfl) ?_;have e0 := EP 3 (g + 1) 0 (hf 3 rfl);have m0 := MC d0 hs tv;have m1 := MC d1 hs tv;have m2 := MC d2 hs tv;clear hd hz hf hw;simp only [RL, e0];go_simp;exact hK _ _ rfl SR
  ·refine RW 15 44 true hz (hw 15 rfl) ?_;have e0 := EV 48 (.agg #[.int .i64 l.mode, .int .i64 l.n, .slice A l.stmts.length c]) (hw 19 rfl);have e1 := EV 49 (.agg #[.int .i64 m.mode, .int .i64 m.n, .slice A' m.stmts.length c']) (hw 20 rfl);clear hd hz hf hw;simp only [RL, e0, e1];go_simp;refine (qS2 _ hs).mono ?_;rintro e wd ⟨rfl, hS⟩;exact hK _ _ rfl hS
  ·refine RW 15 44 true hz (hw 15 rfl) ?_;have e0 := EV 47 (.bool bS) (hw 18 rfl);have e1 := EV 50 (.bool bS) (hw 21 rfl);clear hd hz hf hw;simp only [RL, e0, e1];go_simp;exact hK _ _ rfl SR
  ·have e0 := EV 44 (.bool true) (hw 15 rfl);have e1 := EV 51 (.bool true) (hw 22 rfl);clear hd hz hf hw;simp only [if_true, RL, e0, e1];go_simp;exact hK _ _ rfl SR
  ·have e0 := EV 52 (.bool true) (hw 23 rfl);clear hd hz hf hw;simp only [if_true, RL, e0];go_simp;exact hK _ _ rfl SR
  ·refine RW 24 53 true hz (hw 24 rfl) ?_;have e0 := EP 2 g 0 (hf 2 rfl);have m0 := MC c0 hs tv;have m1 := MC c1 hs tv;have m2 := MC c2 hs tv;clear hd hz hf hw;simp only [RL, e0];go_simp;exact hK _ _ rfl SR
  ·refine RW 24 53 true hz (hw 24 rfl) ?_;have e0 := EP 2 g 0 (hf 2 rfl);have m0 := MC c0 hs tv;have m1 := MC c1 hs tv;have m2 := MC c2 hs tv;clear hd hz hf hw;simp only [RL, e0];go_simp;exact hK _ _ rfl SR
  ·refine RW 24 53 true hz (hw 24 rfl) ?_;have e0 := EV 54 (.agg #[.int .i64 l.mode, .int .i64 l.n, .slice A l.stmts.length c]) (hw 25 rfl);have e1 := EV 55 (.agg #[.int .i64 l.mode, .int .i64 l.n, .slice A l.stmts.length c]) (hw 26 rfl);clear hd hz hf hw;simp only [RL, e0, e1];go_simp;refine (qS3 _ hs).mono ?_;rintro e wd ⟨rfl, hS⟩;exact hK _ _ rfl hS
  ·have e0 := EV 53 (.bool true) (hw 24 rfl);have e1 := EV 56 (.bool true) (hw 27 rfl);clear hd hz hf hw;simp only [if_true, RL, e0, e1];go_simp;exact hK _ _ rfl SR
  ·have e0 := EV 57 (.bool true) (hw 28 rfl);clear hd hz hf hw;simp only [if_true, RL, e0];go_simp;exact hK _ _ rfl SR
 ·intro wR hsR;simp only [putAll, Act.put, LP];have HS := LH (HS.out.trans hsR);clear hsR;go_wp2;go_ret;exact ⟨rfl, HS.out⟩
end Go.Proofs.YtdfojghhpdkpfaaGreatDoor
namespace Go.Proofs.YtdfojghhpdkpfaaGreatDoor
open Go.RowKit Go.ChangeShapes Go.WideShapes Go.ChangeAt
theorem metH_plain (P : Program) (laid : List (String × DataW Unit)) (w : World) (h : (laid.all fun x => x.2.handleName?.isNone) = true) : laidMetH P laid w = laidMet P laid w := by
 have e : (laid.filter fun x => x.2.handleName?.isSome) = [] := List.filter_eq_nil_iff.2 fun x hx hs => by
  have := List.all_eq_true.1 h x hx;cases hn : x.2.handleName? with
  | none => rw [hn] at hs; cases hs
  | some s => rw [hn] at this; cases this
 unfold laidMetH;rw [e]
/-- What a law's walk has to show. -/
def LawWalkC (P : Program) (f : FuncId) (fn : Func) (L : List (String × DataW Unit)) (H : Type) (enc : TypeId × Value → H) : Prop :=
 ∀ (W : World) (base : Nat) (args : List Value) (ds : List (DataW H)) (ps : List MemPlace),
  (∀ (j : Nat) (t : TypeId) (v : Value), fn.params[j]? = some t → args[j]? = some v → Value.okWide P W .any base t v) →
  DataW.TrodAll enc P W 0 (fun _ => true) true fn.params.toList args ds ps → W.ShapedOpen P → laidMet P L W →
  Calls P f args.toArray W fun e W' => e = .returned (.bool true) ∧ Same (fun _ => True) W W'
theorem law_lift_c {C : Checked} {os : Os} {H : Type} {enc : TypeId × Value → H} (f : FuncId) (fn : Func) (s : ChangeSpec) (L : List (String × DataW Unit)) {conds : List PathCond} (started : os.Started)
  (own : ownKnob C.prog.godebug = none) (laid : laidOutB C.prog = true) (noInit : C.prog.inits.idxOf? f = none) (hfn : C.prog.funcs[f]? = some fn)
  (tb : TypeId) (hres : fn.resultTypes = #[tb]) (hbool : C.prog.underlying tb = some .bool) (hvars : s.vars = [])
  (hspec : ∀ ds : List (DataW H), ds.length = fn.params.size → s.fn H ds = { results := [.lit (.bool true)], args := ds })
  (hread : fn.params.toList.all (fun t => C.prog.readableRec t && decide (t < C.prog.types.size)) = true)
  (hL : (L.all fun x => x.2.handleName?.isNone) = true)
  (witness : ∃ (w : World) (tape : Tape) (i : Input), w.os = os ∧ (w.forCall tape i).Shaped C.prog ∧ i.vars = [] ∧ Input.okWide C.prog (w.forCall tape i) .any w.heap.size f i ∧
   ((s.pre enc C.prog fn conds false (w.forCall tape i).memory i.args ∧ laidMetH C.prog L (w.forCall tape i).memory) ∧ sizedMet enc C.prog fn (OpenSpec.ofChange s) false (w.forCall tape i).memory i.args) ∧ ({} : Assume).holds C.prog (lone (Frame.enter C.prog f i.args .normal) [] (w.forCall tape i)))
  (walk : LawWalkC C.prog f fn L H enc) :
  ReturnsInHanded {} C os f .any (fun w args => (s.pre enc C.prog fn conds false w args ∧ laidMetH C.prog L w) ∧ sizedMet enc C.prog fn (OpenSpec.ofChange s) false w args) (s.post enc C.prog fn false true false false) := by
 refine returnsInHanded_of_calls own started noInit witness ?_;intro w tape i _ hsh _ hok hpre hholds;obtain ⟨_, _, _, fn', hfn', _, _, _, _, hval⟩ := hok;have e : fn' = fn := Option.some.inj (hfn'.symm.trans hfn);subst e;obtain ⟨⟨⟨ds, gs, before, hw, hc⟩, hx⟩, hz⟩ := hpre;have hW := DataW.Whole.of_heap (w' := w.forCall tape i) (by rfl) hw;have hW' := hW;rw [metH_plain _ _ _ hL] at hx;have hl : laidMet C.prog L (w.forCall tape i) := laidMet.of_heap (w := (w.forCall tape i).memory) (by rfl) hx;obtain ⟨p, q, hA, hV, rfl, hfz, hnd⟩ := hW;rw [hvars] at hV;obtain ⟨rfl, rfl⟩ := trodVars_none hV
 have hall : ∀ t ∈ fn'.params.toList, C.prog.readableRec t = true ∧ t < C.prog.types.size := fun t ht => by
  have := List.all_eq_true.1 hread t ht;simpa using this
 have hlen := trodAll_length _ _ _ _ hA;refine (walk (w.forCall tape i) w.heap.size i.args.toList ds p (fun j t v hj hv => hval j t v hj (by simpa using hv)) hA hsh hl).mono fun e W' ⟨he, hS⟩ => ?_
 have bel : Below (w.forCall tape i).heap.size (w.forCall tape i) W' := hS.below (Nat.le_refl _) (fun _ _ => tv);subst he;have hd : (ds ++ []).length = fn'.params.size := by have := hlen.2; simp at this ⊢; omega
 refine ChangeSpec.post_blind (W := w.forCall tape i) (W' := W') ?_;refine ⟨ds, [], _, [], p, [], hW', ?_, ?_, ?_, bel.frame _, fun h => by cases h⟩
 ·rw [hspec _ hd, hres];exact trodAll_mk1 (shut_bool hbool _)
 ·rw [hspec _ hd];simpa using trodAll_below laid bel _ _ _ _ hall hA
 ·rw [hvars, hspec _ hd];rfl
/-- The witness: the world in which the listed variables are laid. -/
theorem witness_c {H : Type} {enc : TypeId × Value → H} {C : Checked} {os : Os} {f : FuncId} {fn : Func} {s : ChangeSpec} {conds : List PathCond} (L : List (String × DataW Unit)) (hL : (L.all fun x => x.2.handleName?.isNone) = true) (args : Array Value) (fuel : Nat)
  (hv : ((World.laidAll C.prog os L).forCall (fun _ _ => 0) ⟨#[], args, []⟩).variablesZipB C.prog = true)
  (hr : (((World.laidAll C.prog os L).forCall (fun _ _ => 0) ⟨#[], args, []⟩).heap.toList.drop C.prog.globals.size).take ((begin C.prog (fun _ _ => 0) default).world.heap.size - C.prog.globals.size) =
   (begin C.prog (fun _ _ => 0) default).world.heap.toList.drop C.prog.globals.size)
  (hok : Input.okWideB C.prog ((World.laidAll C.prog os L).forCall (fun _ _ => 0) ⟨#[], args, []⟩) f ⟨#[], args, []⟩ = true)
  (hpre : s.preB enc C.prog fn conds false ((World.laidAll C.prog os L).forCall (fun _ _ => 0) ⟨#[], args, []⟩).memory args fuel = true)
  (hsz : s.sizedB enc C.prog fn false ((World.laidAll C.prog os L).forCall (fun _ _ => 0) ⟨#[], args, []⟩).memory args fuel = true)
  (hf : (World.holding C.prog os ⟨#[], #[], []⟩).layFits C.prog L [] = true)
  (hi : (World.holding C.prog os ⟨#[], #[], []⟩).layIfaces C.prog L (World.laidAll C.prog os L) = true) :
  ∃ (w : World) (tape : Tape) (i : Input), w.os = os ∧ (w.forCall tape i).Shaped C.prog ∧ i.vars = [] ∧ Input.okWide C.prog (w.forCall tape i) .any w.heap.size f i ∧
   ((s.pre enc C.prog fn conds false (w.forCall tape i).memory i.args ∧ laidMetH C.prog L (w.forCall tape i).memory) ∧ sizedMet enc C.prog fn (OpenSpec.ofChange s) false (w.forCall tape i).memory i.args) ∧ ({} : Assume).holds C.prog (lone (Frame.enter C.prog f i.args .normal) [] (w.forCall tape i)) :=
 ⟨World.laidAll C.prog os L, fun _ _ => 0, ⟨#[], args, []⟩, World.laidAll_os _ _ _, World.shaped_of_ZipB hv hr, (Input.okWide_of_okWideB (base := 0) hok).1, (Input.okWide_of_okWideB hok).2,
  ⟨⟨ChangeSpec.pre_of_preB hpre, by rw [metH_plain _ _ _ hL]; exact laidMet_laidAll _ hf hi⟩, sizedMet_of_sizedB hsz⟩, by
  simp only [Assume.holds]
  exact ⟨by simp, by simp, by simp, by simp, by simp⟩⟩
/-- A table anywhere on the list. -/
theorem tabIs_of_mem {P : Program} {W : World} {name : String} {k : IntKind} {zs : List Int} {l : List (String × DataW Unit)} {g : Nat} {t e : TypeId} {n : Nat}
  (hg : P.globalNamed name = some g) (hty : (P.globals[g]?).map (·.type) = some t) (ht : P.underlying t = some (.array n e)) (he : P.underlying e = some (.int k)) (hce : P.cellsOf e = 1) (hct : P.cellsOf t = n)
  (h : laidMet P l W) (hm : (name, Lib.tabData k zs) ∈ l) : Lib.TabIs P W name k zs := by
 obtain ⟨g', t', cs, fuel, p, hg', ht', hvar, hd⟩ := Lib.laidMet.reads h hm;obtain rfl := Option.some.inj (hg.symm.trans hg');obtain rfl := Option.some.inj (hty.symm.trans ht');unfold Lib.TabIs;rw [hvar, ← Lib.cells_of_tab ht he hce hct hd]
theorem envP_of {W : World} (hsh : W.ShapedOpen Tryz.prog) (h : laidMet Tryz.prog Rows.treePrintsRow.laid W) : EnvT W := by
 have hm : ("internal/strconv.uint64pow10", (Rows.laid_internal_strconv_uint64pow10 : DataW Unit)) ∈ Rows.treePrintsRow.laid := List.Mem.tail _ (List.Mem.tail _ (List.Mem.head _));have e : (Rows.laid_internal_strconv_uint64pow10 : DataW Unit) = Lib.tabData .u64 Lib.pow10Tab := by kernel_rfl
 rw [e] at hm;exact ⟨tabIs_of_mem (t := 145) (e := 101) (n := 20) pow_at (by kernel_rfl) Tryz.underlying145 Tryz.underlying101 (by kernel_rfl) (by kernel_rfl) h hm, Tryz.laysM219.s1_3 W hsh⟩
end Go.Proofs.YtdfojghhpdkpfaaGreatDoor
