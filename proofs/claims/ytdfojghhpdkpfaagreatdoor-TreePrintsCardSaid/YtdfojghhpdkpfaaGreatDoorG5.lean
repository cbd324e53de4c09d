/-
  Words, plain models, laws and walks that the claims of this layer share (joined by shake.py). No condition.
-/
import Derived.Laws.StructEq
import Derived.Test.YtdfojghhpdkpfaaGreatDoorG4
set_option linter.unusedSimpArgs false
set_option linter.unusedVariables false
namespace Go.Proofs.YtdfojghhpdkpfaaGreatDoor
open Go.RowKit
theorem cmp_results {W : World} {k : Nat} {u : Value} {d : Dp} (R : Row W k 155 (dpCs u d)) {tmps : Array Value} (h1 : tmps.getD 2 undef = .pointer (some ⟨k, 0, none⟩)) :
  (results Tryz.f149 tmps).run Tryz.prog W = .ok (dpV u d) W := by
 have d0 : W.cell? ⟨k, 0, none⟩ = some (.int .i64 d.e.kind) := R.cell 0;have d1 : W.cell? ⟨k, 1, none⟩ = some (.string (str d.e.s)) := R.cell 1;have d2 : W.cell? ⟨k, 2, none⟩ = some (.int .i64 d.e.v.kind) := R.cell 2;have d3 : W.cell? ⟨k, 3, none⟩ = some (.int .i64 d.e.v.n) := R.cell 3;have d4 : W.cell? ⟨k, 4, none⟩ = some (.string (str d.e.v.s)) := R.cell 4;have d5 : W.cell? ⟨k, 5, none⟩ = some u := R.cell 5;have d6 : W.cell? ⟨k, 6, none⟩ = some (.int .i64 d.n) := R.cell 6;simp at h1;simp [results, Tryz.results149, h1, go_sem, d0, d1, d2, d3, d4, d5, d6]
set_option maxRecDepth 100000 in
set_option maxHeartbeats 8000000 in
theorem cmp_any (g t o : Nat) (fr : Rl → List PT → PR Dp) (hR : RuleC g t o (.func (.func 150) #[pV g] #[]) (fr .sum)) (h16 : ∀ l, Shal (fr .sum l)) (l : List PT) (w : World) (h : PS w g t l o) : Calls Tryz.prog 149 #[pV g] w (DoP g t o (stepT fr .cmp l) (DpG w.heap.size) w) := by
 obtain ⟨F, hF⟩ : ∃ F, F = fr .sum := ⟨_, rfl⟩;obtain ⟨X, hX⟩ : ∃ X, X = stepT fr .cmp l := ⟨_, rfl⟩;rw [← hX];simp only [stepT] at hX;rw [← hF] at hR h16 hX;clear hF;obtain ⟨l3, l4, l5⟩ := h.lt3;have HL3 := LH h.lt3;have HR := LH hR;have H16 := LH h16;have HX := LH hX;have r0 := Row.new w 155 zdp;have hS1 := ((Same.refl (fun _ => True) w).alloc (.cells zdp.toArray 155));have hz1 : (w.alloc (.cells zdp.toArray 155)).heap.size = w.heap.size + 1 := by simp
 have hp1 := h.keep hS1;clear h hR h16 hX;have hmf : ∀ (fn : Fn) (first cap : Array Value) (w : World), (Instr.makeFunc fn first cap).run Tryz.prog w = .ok (.func fn first cap) w := fun _ _ _ _ => rfl
 go_enter Tryz.func149, Tryz.ntmps149;go_wp2_with (go_at_call 128; refine stopAt ?_);unfold Hid;simp only [zdp] at r0 hS1 hz1 hp1;revert r0 hS1 hz1 hp1;generalize w.alloc _ = w0;intro r0 hS1 hz1 hp1;refine (HR.out l w0 hp1).mono ?_;intro e w1 h1;cases hx : F l with
 | error p =>
  rw [hx] at h1;obtain ⟨rfl, hS2⟩ := h1
  have hq : DoP g t o X (DpG w.heap.size) w (.panicked [{ v := failV p.1 p.2, recovered := false }]) w1 := by
   rw [HX.out, hx];exact DoP.err ⟨rfl, hS2⟩ hS1
  exact ⟨rfl, hq⟩
 | ok q =>
  obtain ⟨d, l'⟩ := q;have hd16 := H16.out l d l' hx;have hX1 := HX.out;rw [hx, thenT_ok] at hX1;rw [hx] at h1;obtain ⟨v, rfl, ⟨u, rfl, hex⟩, hp2, hS2⟩ := h1;obtain ⟨Au, cu, rfl, -, -⟩ := hex.toL.form;generalize d.e.args.length = nu at *;have hz2 := hS2.size;have HSw := LH ((hS1.mono (S' := fun q => q ≠ g) fun _ _ _ => tv).trans hS2);have HRR : Hid (Row w1 w.heap.size 155 zdp) := LH (r0.keep hS2 (by omega));obtain ⟨off, c, hrow, hc, hm, hpos, t0, t1, t2, t3⟩ := hp2.open_;unfold maxLen at hm;have b0 := hrow.cell 0;simp only [List.getElem?_cons_zero] at b0;have hl0 : (0 : Int) < (l'.length : Int) := by omega
  obtain ⟨tk, htk⟩ : ∃ tk, tk = hdT l' := ⟨_, rfl⟩;rw [← htk] at t0 t1 t2 t3 hX1;obtain ⟨m3, m4, m5⟩ := hp2.lt3;have HX1 := LH hX1;have HP := LH hp2;have HE := LH hex;have Htk := LH htk;clear hX1 hp2 hex hS1 hS2 r0 hp1 hrow htk HX hx;have rd := (Row.new w1 155 (dpCs (.slice Au nu cu) d)).keep ((ST).alloc (.cells (tokCs tk).toArray 75)) tv;have rt := Row.new (w1.alloc (.cells (dpCs (.slice Au nu cu) d).toArray 155)) 75 (tokCs tk);rw [World.size_alloc] at rt;have hS3 := ((Same.refl (fun _ => True) w1).alloc (.cells (dpCs (.slice Au nu cu) d).toArray 155)).alloc (.cells (tokCs tk).toArray 75);have hz3 : ((w1.alloc (.cells (dpCs (.slice Au nu cu) d).toArray 155)).alloc (.cells (tokCs tk).toArray 75)).heap.size = w1.heap.size + 2 := by simp
  have hss := StrR.new ((w1.alloc (.cells (dpCs (.slice Au nu cu) d).toArray 155)).alloc (.cells (tokCs tk).toArray 75)) g (by omega) [[61], [60, 62], [60], [60, 61], [62], [62, 61]] (by simp [maxLen]);have hS4 := (Same.refl (fun _ => True) ((w1.alloc (.cells (dpCs (.slice Au nu cu) d).toArray 155)).alloc (.cells (tokCs tk).toArray 75))).alloc (.cells (strCs [[61], [60, 62], [60], [60, 61], [62], [62, 61]]).toArray 9);have hz4 : (((w1.alloc (.cells (dpCs (.slice Au nu cu) d).toArray 155)).alloc (.cells (tokCs tk).toArray 75)).alloc (.cells (strCs [[61], [60, 62], [60], [60, 61], [62], [62, 61]]).toArray 9)).heap.size = w1.heap.size + 3 := by simp
  rw [hz3] at hss;have rd := rd.keep hS4 tv;have rt := rt.keep hS4 tv;have hS4 := hS3.trans hS4;clear hS3 hz3;simp only [List.length_cons, List.length_nil, Nat.zero_add, Nat.reduceAdd] at hss;go_wp2_with (go_at_call 38; refine stopAt ?_);unfold Hid;simp only [dpCs, tokCs, strCs, List.map_cons, List.map_nil, show str [61] = ⟨#[61]⟩ from rfl, show str [60, 62] = ⟨#[60, 62]⟩ from rfl, show str [60] = ⟨#[60]⟩ from rfl, show str [60, 61] = ⟨#[60, 61]⟩ from rfl, show str [62] = ⟨#[62]⟩ from rfl, show str [62, 61] = ⟨#[62, 61]⟩ from rfl] at rd rt hS4 hz4 hss;revert rd rt hS4 hz4 hss;generalize ((w1.alloc _).alloc _).alloc _ = w3;intro rd rt hS4 hz4 hss;have hpb := HP.out.keep hS4;refine (begins_any g t l' o cmpsT _ _ w3 hpb (show StrR _ _ _ cmpsT from hss)).mono ?_;rintro e w4 ⟨rfl, hS5⟩;obtain ⟨gd, hgd⟩ : ∃ gd, gd = w1.heap.size := ⟨_, rfl⟩;rw [← hgd] at rd rt hz4 ⊢;have hS6 := hS4.trans hS5;have hz6 := hS5.size;have HRD := LH (rd.keep hS5 tv);have HRT := LH (rt.keep hS5 tv);have HRR := LH (HRR.out.keep hS6 tv);have HP := LH (HP.out.keep hS6);have HE := LH ((HE.out.mono (S' := fun q => w.heap.size + 1 ≤ q ∧ q ≠ gd) fun q hq (h : w0.heap.size ≤ q) => ⟨by omega, by omega⟩).keepAll hS6);have HSw := LH (HSw.out.trans (hS6.mono (S' := fun q => q ≠ g) fun _ _ _ => tv));have hgw : w.heap.size + 1 ≤ gd := by omega
  have hgg : g < gd ∧ t < gd ∧ 1 < gd := by omega
  clear rd rt hS4 hss hpb hS5 hS6 hgd b0 t0 t1 t2 t3 hc hm hpos hl0 m3 m4 m5;cases hq : beginsT cmpsT l'
  ·have hX1 := HX1.out;rw [hq, if_neg (by simp)] at hX1;have HX1 := LH hX1;clear hX1 hq;go_wp2_with (go_at_call 37; refine stopAt ?_);unfold Hid;refine (take_any g t l' o wIS w4 HP.out).mono ?_;rintro e w5 ⟨rfl, hp5, hS5⟩;have hS5z := hS5.size;have HRD := LH (HRD.out.keep hS5 (by omega));have HRT := LH (HRT.out.keep hS5 (by omega));have HRR := LH (HRR.out.keep hS5 (by omega));have HE := LH (HE.out.keep (hS5.mono (S' := fun q => w.heap.size + 1 ≤ q ∧ q ≠ gd) fun q _ h => by have := h.1; omega));have HSw := LH (HSw.out.trans hS5);clear hS5 HP;cases hq : isT wIS l'
   ·rw [hq, if_neg (by simp)] at hp5;have hX1 := HX1.out;rw [hq, if_neg (by simp)] at hX1;have HX1 := LH hX1;have HPx := LH hp5;have HRx := HRR;have HEx := LH (HE.out.mono (S' := fun q => w.heap.size + 1 ≤ q) fun q _ h => h.1);have HSx := HSw;clear hX1 hq hp5;have hyr := HRD.out;obtain ⟨y0, y1, y2, y3, y4, y5, y6⟩ := CN7 hyr;clear hyr;obtain ⟨hD, hG, hB, hC⟩ := fin_dp (u := .slice Au nu cu) (d := d) HPx.out HL3.out HRx.out HEx.out HSx.out;have HD := LH hD;have HG := LH hG;have HB := LH hB;have HC := LH hC;clear hD hG hB hC;have rr := HRx.out;obtain ⟨q0, q1, q2, q3, q4, q5, q6⟩ := CN7 rr;obtain ⟨x0, x1, x2, x3, x4, x5, x6⟩ := FN7 rr;have zr := rr.lt;clear rr;go_wp2;refine bodyPost_ret (cmp_results (u := .slice Au nu cu) (d := d) (show Row _ _ _ (dpCs (.slice Au nu cu) d) from HD.out) rfl) rfl ?_;rw [HX1.out];exact ⟨_, rfl, HG.out, HB.out, HC.out⟩
   ·rw [hq, if_pos rfl] at hp5;have hX1 := HX1.out;rw [hq, if_pos rfl] at hX1;have HX1 := LH hX1;have HP := LH hp5;clear hX1 hq hp5;go_wp2_with (go_at_call 37; refine stopAt ?_);unfold Hid;refine (take_any g t l'.tail o wNOT w5 HP.out).mono ?_;rintro e w6 ⟨rfl, hp6, hS6⟩;have hS6z := hS6.size;have HRD := LH (HRD.out.keep hS6 (by omega));have HRT := LH (HRT.out.keep hS6 (by omega));have HRR := LH (HRR.out.keep hS6 (by omega));have HE := LH (HE.out.keep (hS6.mono (S' := fun q => w.heap.size + 1 ≤ q ∧ q ≠ gd) fun q _ h => by have := h.1; omega));have HSw := LH (HSw.out.trans hS6);clear hS6 HP;cases hq : isT wNOT l'.tail
    ·rw [hq, if_neg (by simp)] at hp6;have hX1 := HX1.out;rw [hq, if_neg (by simp)] at hX1;have HX1 := LH hX1;have HP := LH hp6;clear hX1 hq hp6;have hss := StrR.new w6 g (by omega) [wNULL] (by simp [maxLen]);have hS7 := (Same.refl (fun _ => True) w6).alloc (.cells (strCs [wNULL]).toArray 9);have hz7 : (w6.alloc (.cells (strCs [wNULL]).toArray 9)).heap.size = w6.heap.size + 1 := by simp
     simp only [List.length_cons, List.length_nil, Nat.zero_add, Nat.reduceAdd] at hss;go_wp2_with (go_at_call 40; refine stopAt ?_);unfold Hid;simp only [strCs, List.map_cons, List.map_nil, wNULL, str] at hS7 hz7 hss;revert hS7 hz7 hss;generalize w6.alloc _ = w7;intro hS7 hz7 hss;have hp7 := HP.out.keep hS7;have hS7 := hS7.mono (S' := fun q => q ≠ g) fun _ _ _ => tv
     have hS7z := hS7.size;have HRD := LH (HRD.out.keep hS7 (by omega));have HRT := LH (HRT.out.keep hS7 (by omega));have HRR := LH (HRR.out.keep hS7 (by omega));have HE := LH (HE.out.keep (hS7.mono (S' := fun q => w.heap.size + 1 ≤ q ∧ q ≠ gd) fun q _ h => by have := h.1; omega));have HSw := LH (HSw.out.trans hS7);refine (must_any g t l'.tail o [wNULL] _ w7 hp7 hss).mono ?_;intro e w8 h8;clear hss hp7 hS7;cases hm : mustT [wNULL] l'.tail with
     | error p =>
      rw [hm] at h8;obtain ⟨rfl, hS8⟩ := h8
      have hq : DoP g t o X (DpG w.heap.size) w (.panicked [{ v := failV p.1 p.2, recovered := false }]) w8 := by
       rw [HX1.out, hm];exact DoP.err ⟨rfl, hS8⟩ HSw.out fun _ h => h
      exact ⟨rfl, hq⟩
     | ok q =>
      obtain ⟨⟨⟩, l2⟩ := q;rw [hm] at h8;obtain ⟨v, rfl, rfl, hp8, hS8⟩ := h8;have hX2 := HX1.out;rw [hm, thenT_ok] at hX2;have HX2 := LH hX2;have HP := LH hp8;have hS8z := hS8.size;have HRD := LH (HRD.out.keep hS8 (by omega));have HRT := LH (HRT.out.keep hS8 (by omega));have HRR := LH (HRR.out.keep hS8 (by omega));have HE := LH (HE.out.keep (hS8.mono (S' := fun q => w.heap.size + 1 ≤ q ∧ q ≠ gd) fun q _ h => by have := h.1; omega));have HSw := LH (HSw.out.trans hS8);clear hX2 hp8 hS8 hm HX1;have hEd : ExR w8 (fun q => w.heap.size + 1 ≤ q ∧ q ≠ gd) (.slice Au nu cu) d.e := HE.out;have hDR := DpR.one hEd ⟨by omega, by omega⟩;have hS9 := (Same.refl (fun _ => True) w8).alloc (.cells (dpCs (.slice Au nu cu) d).toArray 155);have hz9 : (w8.alloc (.cells (dpCs (.slice Au nu cu) d).toArray 155)).heap.size = w8.heap.size + 1 := by simp
      clear hEd;have hyr := HRD.out;obtain ⟨y0, y1, y2, y3, y4, y5, y6⟩ := CN7 hyr;clear hyr;have hkr := HRT.out;obtain ⟨k0, k1, k2, k3⟩ := CN4 hkr;clear hkr;go_wp2_with (go_at_call 142; refine stopAt ?_);unfold Hid;simp only [dpCs] at hS9 hz9 hDR;revert hS9 hz9 hDR;generalize w8.alloc _ = w9;intro hDR hS9 hz9;have hp9 := HP.out.keep hS9;have hS9 := hS9.mono (S' := fun q => q ≠ g) fun _ _ _ => tv
      have hS9z := hS9.size;have HRD := LH (HRD.out.keep hS9 (by omega));have HRT := LH (HRT.out.keep hS9 (by omega));have HRR := LH (HRR.out.keep hS9 (by omega));have HE := LH (HE.out.keep (hS9.mono (S' := fun q => w.heap.size + 1 ≤ q ∧ q ≠ gd) fun q _ h => by have := h.1; omega));have HSw := LH (HSw.out.trans hS9);refine (op_any tk wISNULL _ [d] _ w9 hDR (by simp) (fun d' h => by simp only [List.mem_cons, List.not_mem_nil, or_false] at h; subst h; omega)).mono ?_;intro e wa ⟨hA1, hA2, hSa⟩;clear hDR hS9;have hpa := hp9.keep hSa;have hSa := hSa.mono (S' := fun q => q ≠ g) fun _ _ _ => tv
      have hSaz := hSa.size;have HRD := LH (HRD.out.keep hSa (by omega));have HRT := LH (HRT.out.keep hSa (by omega));have HRR := LH (HRR.out.keep hSa (by omega));have HE := LH (HE.out.keep (hSa.mono (S' := fun q => w.heap.size + 1 ≤ q ∧ q ≠ gd) fun q _ h => by have := h.1; omega));have HSw := LH (HSw.out.trans hSa);by_cases hdp : 16 < deepOf [d] + 1
      ·obtain rfl := hA1 hdp
       have hq : DoP g t o X (DpG w.heap.size) w (.panicked [{ v := failV tk.1 3, recovered := false }]) wa := by
        rw [HX2.out];unfold opT;rw [if_pos hdp];exact DoP.err ⟨rfl, Same.refl _ _⟩ HSw.out fun _ h => h
       exact ⟨rfl, hq⟩
      ·obtain ⟨u3, rfl, hex3⟩ := hA2 hdp;obtain ⟨A3, c3, rfl, -, -⟩ := hex3.toL.form;have hX3 := HX2.out;rw [opT_ok (by omega)] at hX3;obtain ⟨D3, hD3⟩ : ∃ D3, D3 = opD wISNULL [d] := ⟨_, rfl⟩;rw [← hD3] at hex3 hX3 ⊢;generalize D3.e.args.length = n3 at *;have HX3 := LH hX3;have HPx := LH hpa;have HRx := HRR;have HEx := LH (hex3.mono (S' := fun q => w.heap.size + 1 ≤ q) fun q _ h => by have h : (w.heap.size + 1 ≤ q ∧ q ≠ gd) ∨ w9.heap.size ≤ q := h; omega);have HSx := HSw;clear hX3 hpa hex3 hSa hA1 hA2 hdp hD3 HX2;obtain ⟨hD, hG, hB, hC⟩ := fin_dp (u := .slice A3 n3 c3) (d := D3) HPx.out HL3.out HRx.out HEx.out HSx.out;have HD := LH hD;have HG := LH hG;have HB := LH hB;have HC := LH hC;clear hD hG hB hC;have rr := HRx.out;obtain ⟨q0, q1, q2, q3, q4, q5, q6⟩ := CN7 rr;obtain ⟨x0, x1, x2, x3, x4, x5, x6⟩ := FN7 rr;have zr := rr.lt;clear rr;go_wp2;refine bodyPost_ret (cmp_results (u := .slice A3 n3 c3) (d := D3) (show Row _ _ _ (dpCs (.slice A3 n3 c3) D3) from HD.out) rfl) rfl ?_;rw [HX3.out];exact ⟨_, rfl, HG.out, HB.out, HC.out⟩
    ·rw [hq, if_pos rfl] at hp6;have hX1 := HX1.out;rw [hq, if_pos rfl] at hX1;have HX1 := LH hX1;have HP := LH hp6;clear hX1 hq hp6;have hss := StrR.new w6 g (by omega) [wNULL] (by simp [maxLen]);have hS7 := (Same.refl (fun _ => True) w6).alloc (.cells (strCs [wNULL]).toArray 9);have hz7 : (w6.alloc (.cells (strCs [wNULL]).toArray 9)).heap.size = w6.heap.size + 1 := by simp
     simp only [List.length_cons, List.length_nil, Nat.zero_add, Nat.reduceAdd] at hss;go_wp2_with (go_at_call 40; refine stopAt ?_);unfold Hid;simp only [strCs, List.map_cons, List.map_nil, wNULL, str] at hS7 hz7 hss;revert hS7 hz7 hss;generalize w6.alloc _ = w7;intro hS7 hz7 hss;have hp7 := HP.out.keep hS7;have hS7 := hS7.mono (S' := fun q => q ≠ g) fun _ _ _ => tv
     have hS7z := hS7.size;have HRD := LH (HRD.out.keep hS7 (by omega));have HRT := LH (HRT.out.keep hS7 (by omega));have HRR := LH (HRR.out.keep hS7 (by omega));have HE := LH (HE.out.keep (hS7.mono (S' := fun q => w.heap.size + 1 ≤ q ∧ q ≠ gd) fun q _ h => by have := h.1; omega));have HSw := LH (HSw.out.trans hS7);refine (must_any g t l'.tail.tail o [wNULL] _ w7 hp7 hss).mono ?_;intro e w8 h8;clear hss hp7 hS7;cases hm : mustT [wNULL] l'.tail.tail with
     | error p =>
      rw [hm] at h8;obtain ⟨rfl, hS8⟩ := h8
      have hq : DoP g t o X (DpG w.heap.size) w (.panicked [{ v := failV p.1 p.2, recovered := false }]) w8 := by
       rw [HX1.out, hm];exact DoP.err ⟨rfl, hS8⟩ HSw.out fun _ h => h
      exact ⟨rfl, hq⟩
     | ok q =>
      obtain ⟨⟨⟩, l2⟩ := q;rw [hm] at h8;obtain ⟨v, rfl, rfl, hp8, hS8⟩ := h8;have hX2 := HX1.out;rw [hm, thenT_ok] at hX2;have HX2 := LH hX2;have HP := LH hp8;have hS8z := hS8.size;have HRD := LH (HRD.out.keep hS8 (by omega));have HRT := LH (HRT.out.keep hS8 (by omega));have HRR := LH (HRR.out.keep hS8 (by omega));have HE := LH (HE.out.keep (hS8.mono (S' := fun q => w.heap.size + 1 ≤ q ∧ q ≠ gd) fun q _ h => by have := h.1; omega));have HSw := LH (HSw.out.trans hS8);clear hX2 hp8 hS8 hm HX1;have hEd : ExR w8 (fun q => w.heap.size + 1 ≤ q ∧ q ≠ gd) (.slice Au nu cu) d.e := HE.out;have hDR := DpR.one hEd ⟨by omega, by omega⟩;have hS9 := (Same.refl (fun _ => True) w8).alloc (.cells (dpCs (.slice Au nu cu) d).toArray 155);have hz9 : (w8.alloc (.cells (dpCs (.slice Au nu cu) d).toArray 155)).heap.size = w8.heap.size + 1 := by simp
      clear hEd;have hyr := HRD.out;obtain ⟨y0, y1, y2, y3, y4, y5, y6⟩ := CN7 hyr;clear hyr;have hkr := HRT.out;obtain ⟨k0, k1, k2, k3⟩ := CN4 hkr;clear hkr;go_wp2_with (go_at_call 142; refine stopAt ?_);unfold Hid;simp only [dpCs] at hS9 hz9 hDR;revert hS9 hz9 hDR;generalize w8.alloc _ = w9;intro hDR hS9 hz9;have hp9 := HP.out.keep hS9;have hS9 := hS9.mono (S' := fun q => q ≠ g) fun _ _ _ => tv
      have hS9z := hS9.size;have HRD := LH (HRD.out.keep hS9 (by omega));have HRT := LH (HRT.out.keep hS9 (by omega));have HRR := LH (HRR.out.keep hS9 (by omega));have HE := LH (HE.out.keep (hS9.mono (S' := fun q => w.heap.size + 1 ≤ q ∧ q ≠ gd) fun q _ h => by have := h.1; omega));have HSw := LH (HSw.out.trans hS9);refine (op_any tk wNOTNULL _ [d] _ w9 hDR (by simp) (fun d' h => by simp only [List.mem_cons, List.not_mem_nil, or_false] at h; subst h; omega)).mono ?_;intro e wa ⟨hA1, hA2, hSa⟩;clear hDR hS9;have hpa := hp9.keep hSa;have hSa := hSa.mono (S' := fun q => q ≠ g) fun _ _ _ => tv
      have hSaz := hSa.size;have HRD := LH (HRD.out.keep hSa (by omega));have HRT := LH (HRT.out.keep hSa (by omega));have HRR := LH (HRR.out.keep hSa (by omega));have HE := LH (HE.out.keep (hSa.mono (S' := fun q => w.heap.size + 1 ≤ q ∧ q ≠ gd) fun q _ h => by have := h.1; omega));have HSw := LH (HSw.out.trans hSa);by_cases hdp : 16 < deepOf [d] + 1
      ·obtain rfl := hA1 hdp
       have hq : DoP g t o X (DpG w.heap.size) w (.panicked [{ v := failV tk.1 3, recovered := false }]) wa := by
        rw [HX2.out];unfold opT;rw [if_pos hdp];exact DoP.err ⟨rfl, Same.refl _ _⟩ HSw.out fun _ h => h
       exact ⟨rfl, hq⟩
      ·obtain ⟨u3, rfl, hex3⟩ := hA2 hdp;obtain ⟨A3, c3, rfl, -, -⟩ := hex3.toL.form;have hX3 := HX2.out;rw [opT_ok (by omega)] at hX3;obtain ⟨D3, hD3⟩ : ∃ D3, D3 = opD wNOTNULL [d] := ⟨_, rfl⟩;rw [← hD3] at hex3 hX3 ⊢;generalize D3.e.args.length = n3 at *;have HX3 := LH hX3;have HPx := LH hpa;have HRx := HRR;have HEx := LH (hex3.mono (S' := fun q => w.heap.size + 1 ≤ q) fun q _ h => by have h : (w.heap.size + 1 ≤ q ∧ q ≠ gd) ∨ w9.heap.size ≤ q := h; omega);have HSx := HSw;clear hX3 hpa hex3 hSa hA1 hA2 hdp hD3 HX2;obtain ⟨hD, hG, hB, hC⟩ := fin_dp (u := .slice A3 n3 c3) (d := D3) HPx.out HL3.out HRx.out HEx.out HSx.out;have HD := LH hD;have HG := LH hG;have HB := LH hB;have HC := LH hC;clear hD hG hB hC;have rr := HRx.out;obtain ⟨q0, q1, q2, q3, q4, q5, q6⟩ := CN7 rr;obtain ⟨x0, x1, x2, x3, x4, x5, x6⟩ := FN7 rr;have zr := rr.lt;clear rr;go_wp2;refine bodyPost_ret (cmp_results (u := .slice A3 n3 c3) (d := D3) (show Row _ _ _ (dpCs (.slice A3 n3 c3) D3) from HD.out) rfl) rfl ?_;rw [HX3.out];exact ⟨_, rfl, HG.out, HB.out, HC.out⟩
  ·have hX1 := HX1.out;rw [hq, if_pos rfl] at hX1;have HX0 := LH hX1;have Hkd := LH (begins_kind hq);clear hX1 hq HX1;obtain ⟨off, c, hrow, hc, hm, hl, hl2, hc1, t0, t1, t2, t3, HN⟩ := PS.step HP.out Hkd.out;unfold maxLen at hm;have b0 := hrow.cell 0;simp only [List.getElem?_cons_zero] at b0;have f0 := hrow.frozen 0;have hl0 : (0 : Int) < (l'.length : Int) := by omega
   clear hrow;have hSg : Same (fun q => q ≠ g) w4 (w4.setCell ⟨g, 0, none⟩ (.slice (some ⟨t, off + 4, none⟩) (l'.length - 1) (c - 1))) := SR.setCell (fun _ h => h rfl) _;have hzg := size_set w4 ⟨g, 0, none⟩ (.slice (some ⟨t, off + 4, none⟩) (l'.length - 1) (c - 1));have hrd := HRD.out.keep hSg (by omega);have hrt := HRT.out.keep hSg (by omega);have hrr := HRR.out.keep hSg (by omega);have hEg := HE.out.keep (hSg.mono (S' := fun q => w.heap.size + 1 ≤ q ∧ q ≠ gd) fun q _ h => by have := h.1; omega);have hSg := HSw.out.trans hSg;have HN := LH HN;have Hrd := LH hrd;have Hrt := LH hrt;have Hrr := LH hrr;have HEg := LH hEg;have HSg := LH hSg;clear hrd hrt hrr hEg hSg HRD HRT HRR HE HSw HP;go_upto_region 5 with (fail);revert HN Hrd Hrt Hrr HEg HSg hzg;generalize w4.setCell _ _ = w5;intro hzg HN Hrd Hrt Hrr HEg HSg;have HPw : Hid (PS w5 g t l'.tail o) := LH HN.out;have HRw := Hrr;have HSw := HSg;have hyr := Hrd.out;have hkr := Hrt.out;obtain ⟨y0, y1, y2, y3, y4, y5, y6⟩ := CN7 hyr;obtain ⟨k0, k1, k2, k3⟩ := CN4 hkr;have htok : TR g w.heap.size (gd + 1) := ⟨by omega, by omega⟩;have hdin : TR g w.heap.size gd := ⟨by omega, by omega⟩;have HEd : Hid (∀ wc, Same (TR g w.heap.size) w5 wc → ExR wc (fun q => w.heap.size + 1 ≤ q ∧ q ≠ w.heap.size) (.slice Au nu cu) d.e) := LH fun wc hs => (HEg.out.keep (hs.mono fun q _ h => ⟨by have := h.1; omega, by have := h.1; omega⟩)).mono fun q _ h => ⟨h.1, by have := h.1; omega⟩
   clear hyr hkr HN Hrd Hrt Hrr HEg HSg t0 t1 t2 t3 b0 f0;obtain ⟨x, hxe⟩ : ∃ x, x = F l'.tail := ⟨_, rfl⟩;have Hxe := LH hxe;have hgB : g < w.heap.size + 1 := by omega
   have HXr : Hid (∀ p, x = .error p → X = .error p) := LH fun p hp => by rw [HX0.out, ← hxe, hp]; rfl
   have HXo : Hid (x = .ok (valT x, leftT x) → 16 < deepOf [d, valT x] + 1 → X = .error (tk.1, 3)) := LH fun hp hd => by
    rw [HX0.out, ← hxe]
    conv => lhs; rw [hp]
    rw [thenT_ok];unfold opT;rw [if_pos hd]
   have HXk : Hid (x = .ok (valT x, leftT x) → deepOf [d, valT x] ≤ 15 → X = .ok (opD tk.2.s [d, valT x], leftT x)) := LH fun hp hd => by
    rw [HX0.out, ← hxe]
    conv => lhs; rw [hp]
    rw [thenT_ok, opT_ok hd]
   have HD16 : Hid (x = .ok (valT x, leftT x) → ∀ d' ∈ [d, valT x], d'.n ≤ 1000000) := LH fun hp d' hd' => by
    have := H16.out l'.tail (valT x) (leftT x) (hxe.symm.trans hp);simp only [List.mem_cons, List.not_mem_nil, or_false] at hd';rcases hd' with rfl | rfl <;> omega
   have HST : Hid (RegS g t o w.heap.size (w.heap.size + 1) l'.tail (leftT x) zdp (opD tk.2.s [d, valT x]) (x = .ok (valT x, leftT x) ∧ deepOf [d, valT x] ≤ 15) false false w5.drew) := LH (RegS.keep (W := w5) ⟨HPw.out, fun _ => HRw.out, fun h => by cases h⟩ SR.drew);have HS3 := HSw;clear hxe;refine wp_region_full_lit (T := TR g (w.heap.size)) (L := [some (.eq (tokV4 tk)), some (.eq (.pointer (some ⟨gd + 1, 2, none⟩))), some (.eq (.string (str tk.2.s))), some (.eq (dpV (.slice Au nu cu) d)), some (.eq (pV g)), some (.eq (pV g)), some (.eq (.func (.func 150) #[pV g] #[])), some (RuS g (w.heap.size) (w.heap.size + 1) hgB x), some (SlS g (w.heap.size) (w.heap.size + 1) hgB [d, valT x] (x = .ok (valT x, leftT x))), some (OpS g (w.heap.size) (w.heap.size + 1) hgB (opD tk.2.s [d, valT x]) (x = .ok (valT x, leftT x) ∧ deepOf [d, valT x] ≤ 15)), none]) (fun f _ W => RegS g t o (w.heap.size) (w.heap.size + 1) l'.tail (leftT x) (zdp) (opD tk.2.s [d, valT x]) (x = .ok (valT x, leftT x) ∧ deepOf [d, valT x] ≤ 15) (f 7) (f 10) W) (by kernel_rfl) (by kernel_rfl) (by rfl) rfl ?_ ?_ ?_
   ·exact HST.out
   ·refine ⟨?_, ?_, ?_, ?_, ?_, ?_, ?_, ?_, ?_, ?_, ?_, tv⟩
    all_goals (intro ac wc f hs hst hni hwt hdn hd hz hf hw K hK;generalize hU : valF _ ac = U at hst hK)
    ·have e0 := EP 4 (gd + 1) 0 (hf 4 rfl);have m0 := MC k0 hs htok;have m1 := MC k1 hs htok;have m2 := MC k2 hs htok;have m3 := MC k3 hs htok;clear hd hz hf hw;simp only [if_true, RL, e0];go_simp;exact hK _ _ (fun _ => rfl) SR hst
    ·have e0 := EP 4 (gd + 1) 0 (hf 4 rfl);clear hd hz hf hw;simp only [if_true, RL, e0];go_simp;exact hK _ _ (fun _ => rfl) SR hst
    ·have e0 := EP 29 (gd + 1) 2 (hw 1 rfl);have m0 := MC k2 hs htok;clear hd hz hf hw;simp only [if_true, RL, e0];go_simp;exact hK _ _ (fun _ => rfl) SR hst
    ·have e0 := EP 3 gd 0 (hf 3 rfl);have m0 := MC y0 hs hdin;have m1 := MC y1 hs hdin;have m2 := MC y2 hs hdin;have m3 := MC y3 hs hdin;have m4 := MC y4 hs hdin;have m5 := MC y5 hs hdin;have m6 := MC y6 hs hdin;clear hd hz hf hw;simp only [if_true, RL, e0];go_simp;exact hK _ _ (fun _ => rfl) SR hst
    ·have e0 := EV 0 (pV g) (hf 0 rfl);clear hd hz hf hw;simp only [if_true, RL, e0];go_simp;exact hK _ _ (fun _ => rfl) SR hst
    ·have e0 := EV 0 (pV g) (hf 0 rfl);clear hd hz hf hw;simp only [if_true, RL, e0];go_simp;exact hK _ _ (fun _ => rfl) SR hst
    ·have e0 := EV 33 (pV g) (hw 5 rfl);clear hd hz hf hw;simp only [if_true, RL, e0];go_simp;exact hK _ _ (fun _ => rfl) SR hst
    ·have e0 := EV 32 (pV g) (hw 4 rfl);have e1 := EV 34 (.func (.func 150) #[pV g] #[]) (hw 6 rfl);have Hdf := LH (show ac.defers = [] from hd)
     have h9 : f 10 = false := by
      cases h : f 10 with
      | false => rfl
      | true => (have h8 := hdn 10 9 rfl h; have h7 := hdn 9 8 rfl h8; have h6 := hdn 8 7 rfl h7; rw [hni] at h6; cases h6)
     have hps : PS wc g t l'.tail o := by
      have := hst.1;rw [hni] at this;exact this
     have hrd := hst.2.1 h9;clear hd hz hf hw;simp only [if_true, RL, e0, e1];go_simp;refine (HR.out l'.tail wc hps).mono ?_;intro e wd h1;cases hx : F l'.tail with
     | error p =>
      rw [hx] at h1;obtain ⟨rfl, hSp⟩ := h1
      have hq : DoP g t o X (DpG w.heap.size) w (.panicked [{ v := failV p.1 p.2, recovered := false }]) wd := by
       rw [HXr.out p (Hxe.out.trans hx)];exact DoP.err ⟨rfl, hSp⟩ (HS3.out.trans' hs fun q hq h => ⟨h, by omega⟩) fun _ h => h
      exact ⟨Hdf.out, hq⟩
     | ok q =>
      rw [hx] at h1;obtain ⟨v', rfl, ⟨u2, rfl, hex2⟩, hp2, hS2⟩ := h1;have hxx : x = .ok (valT x, leftT x) := by rw [Hxe.out, hx]; rfl
      have hx1 : valT x = q.1 := by rw [Hxe.out, hx]; rfl
      have hx2 : leftT x = q.2 := by rw [Hxe.out, hx]; rfl
      have hzc := hs.size;refine hK _ _ (fun _ => ⟨u2, by rw [hx1], by rw [hx1]; exact hex2.mono fun k hk (h : wc.heap.size ≤ k) => ⟨by omega, by omega⟩, hxx⟩) (hS2.mono fun k hk h => h.1) ⟨?_, ?_, ?_⟩
      ·show PS wd g t (leftT x) o;rw [hx2];exact hp2
      ·intro _;exact hrd.keep hS2 (by omega)
      ·intro h;have h : f 10 = true := h;rw [h9] at h;cases h
    ·have e0 := EV 31 (dpV (.slice Au nu cu) d) (hw 3 rfl);have p1 : (RuS g (w.heap.size) (w.heap.size + 1) hgB x : SPT (TR g (w.heap.size))).p (ac.eval (.tmp 35)) wc := hw 7 rfl;obtain ⟨u1, e1⟩ : ∃ u, ac.eval (.tmp 35) = u := ⟨_, rfl⟩;have v1 : U 7 = u1 := by rw [← hU]; exact e1
     rw [e1] at p1;obtain ⟨u2, rfl, hex2, hxx⟩ := p1;obtain ⟨A2, c2, rfl, -, -⟩ := hex2.toL.form;have Hxx := LH hxx;clear hxx;have Hex2 := LH hex2;clear hex2;clear hd hz hf hw;simp only [if_true, RL, e0, e1];go_simp;have hzc := hs.size;have hex2 := Hex2.out;have hxx := Hxx.out;exact hK _ _ (fun _ => ⟨DpR.two (HEd.out wc hs) hex2 ⟨by omega, by omega⟩, hxx⟩) (SR.alloc _) (RegS.keep hst (SR.alloc _))
    ·have e0 := EV 28 (tokV4 tk) (hw 0 rfl);have e1 := EV 30 (.string (str tk.2.s)) (hw 2 rfl);have p2 : (SlS g (w.heap.size) (w.heap.size + 1) hgB [d, valT x] (x = .ok (valT x, leftT x)) : SPT (TR g (w.heap.size))).p (ac.eval (.tmp 36)) wc := hw 8 rfl;obtain ⟨u2, e2⟩ : ∃ u, ac.eval (.tmp 36) = u := ⟨_, rfl⟩;have v2 : U 8 = u2 := by rw [← hU]; exact e2
     rw [e2] at p2;have Hdf := LH (show ac.defers = [] from hd);have HSB := LH p2;clear p2;clear hd hz hf hw;simp only [if_true, RL, e0, e1, e2];go_simp;obtain ⟨hsb, hxx⟩ := HSB.out;refine (op_any tk tk.2.s _ [d, valT x] _ wc hsb (by simp) (HD16.out hxx)).mono ?_;intro e wd ⟨hA1, hA2, hS2⟩;have hzc := hs.size;by_cases hdp : 16 < deepOf [d, valT x] + 1
     ·obtain rfl := hA1 hdp
      have hq : DoP g t o X (DpG w.heap.size) w (.panicked [{ v := failV tk.1 3, recovered := false }]) wd := by
       rw [HXo.out hxx hdp];exact DoP.err ⟨rfl, hS2.mono fun _ _ _ => tv⟩ (HS3.out.trans' hs fun q hq h => ⟨h, by omega⟩) fun _ h => h
      exact ⟨Hdf.out, hq⟩
     ·obtain ⟨u3, rfl, hex3⟩ := hA2 hdp;exact hK _ _ (fun _ => ⟨u3, rfl, hex3.mono fun k hk h => h.elim id fun h => ⟨by omega, by omega⟩, hxx, by omega⟩) (hS2.mono fun _ _ _ => tv) (RegS.keep hst hS2)
    ·have e0 := EP 2 w.heap.size 0 (hf 2 rfl);have p1 : (OpS g (w.heap.size) (w.heap.size + 1) hgB (opD tk.2.s [d, valT x]) (x = .ok (valT x, leftT x) ∧ deepOf [d, valT x] ≤ 15) : SPT (TR g (w.heap.size))).p (ac.eval (.tmp 37)) wc := hw 9 rfl;obtain ⟨u1, e1⟩ : ∃ u, ac.eval (.tmp 37) = u := ⟨_, rfl⟩;have v1 : U 9 = u1 := by rw [← hU]; exact e1
     rw [e1] at p1;obtain ⟨u3, rfl, hex3, hok⟩ := p1;have Hok := LH hok;clear hok;obtain ⟨A3, c3, rfl, -, -⟩ := hex3.toL.form;generalize (opD tk.2.s [d, valT x]).e.args.length = n3 at *;have hr_ := hst.2.1 hni;obtain ⟨m0, m1, m2, m3, m4, m5, m6⟩ := CN7 hr_;obtain ⟨n0_, n1_, n2_, n3_, n4_, n5_, n6_⟩ := FN7 hr_;have zr := hr_.lt;clear hd hz hf hw;simp only [if_true, RL, e0, e1];go_simp;have hss : Same (fun q => q ≠ w.heap.size) wc (setsW wc (w.heap.size) 0 (dpCs (.slice A3 n3 c3) (opD tk.2.s [d, valT x]))) := Same.sets (fun h => h rfl) _ 0 SR;have hA := hst.1.keepB hss (by omega) (by omega) (by omega);have hB := hr_.sets (dpCs (.slice A3 n3 c3) (opD tk.2.s [d, valT x])) 0;have hC := hex3.keep (hss.mono (S' := fun q => w.heap.size + 1 ≤ q ∧ q ≠ w.heap.size) fun k _ h => h.2);have hD := hss.mono (S' := TR g (w.heap.size)) fun k _ h => h.2
     refine hK undef _ (fun h => (by cases h)) ?_ ⟨?_, ?_, ?_⟩
     ·exact hD
     ·exact hA
     ·exact fun h => (by cases h)
     ·exact fun _ => ⟨Hok.out, .slice A3 n3 c3, hB, hC⟩
   ·intro vs wR f hvl hvp hsR hst hfR;obtain ⟨z0, z1, z2, z3, z4, z5, z6, z7, z8, z9, z10, rfl⟩ := LN11 hvl
    ·obtain rfl : z0 = (tokV4 tk) := hvp 0 (by simp);obtain rfl : z1 = (.pointer (some ⟨gd + 1, 2, none⟩)) := hvp 1 (by simp);obtain rfl : z2 = (.string (str tk.2.s)) := hvp 2 (by simp);obtain rfl : z3 = (dpV (.slice Au nu cu) d) := hvp 3 (by simp);obtain rfl : z4 = (pV g) := hvp 4 (by simp);obtain rfl : z5 = (pV g) := hvp 5 (by simp);obtain rfl : z6 = (.func (.func 150) #[pV g] #[]) := hvp 6 (by simp);have hru : (RuS g (w.heap.size) (w.heap.size + 1) hgB x : SPT (TR g (w.heap.size))).p z7 wR := hvp 7 (by simp);have hsb : (SlS g (w.heap.size) (w.heap.size + 1) hgB [d, valT x] (x = .ok (valT x, leftT x)) : SPT (TR g (w.heap.size))).p z8 wR := hvp 8 (by simp);have hpo : (OpS g (w.heap.size) (w.heap.size + 1) hgB (opD tk.2.s [d, valT x]) (x = .ok (valT x, leftT x) ∧ deepOf [d, valT x] ≤ 15) : SPT (TR g (w.heap.size))).p z9 wR := hvp 9 (by simp);clear hvl hvp;simp only [putAll, Act.put, LP];clear hru hsb hpo;have hst := hst;rw [hfR 7, hfR 10] at hst;obtain ⟨hpR, -, hnew⟩ := hst;obtain ⟨⟨hxx, hdo⟩, u3, hrN, hexN⟩ := hnew rfl;have hpR : PS wR g t (leftT x) o := hpR;have HSe := LH (HSw.out.trans' hsR fun q hq h => ⟨h, by omega⟩);have HPe := LH hpR;have HRe := LH hrN;have HEe := LH (hexN.mono (S' := fun q => w.heap.size ≤ q) fun q _ h => by have := h.1; omega);have HXe := LH (HXk.out hxx hdo);clear hpR hnew hxx hdo hrN hexN;go_wp2;refine bodyPost_ret (cmp_results (show Row _ _ _ (dpCs u3 _) from HRe.out) rfl) rfl ?_;rw [HXe.out];exact ⟨_, rfl, ⟨_, rfl, HEe.out⟩, HPe.out, HSe.out⟩
def zval : List Value := [.int .i64 0, .int .i64 0, .string ⟨#[]⟩]
theorem ExR.lf (w : World) (S : Nat → Prop) (k : Int) (s : List UInt8) (v : Val) : ExR w S (.slice none 0 0) (.mk k s v []) := .mk k s v [] [] none 0 rfl (Nat.le_refl _) (by simp [maxLen]) (by simpa using Sl.nil w S 6 none) (fun i u e h => by simp at h)
theorem no_kind {a : Nat} {b : Nat} (h : ¬ a = b) : ((a : Int) == (b : Int)) = false := by simpa using fun h' : (a : Int) = b => h (by omega)
theorem unary_results {W : World} {k : Nat} {u : Value} {d : Dp} (R : Row W k 155 (dpCs u d)) {tmps : Array Value} (h1 : tmps.getD 2 undef = .pointer (some ⟨k, 0, none⟩)) :
  (results Tryz.f152 tmps).run Tryz.prog W = .ok (dpV u d) W := by
 have d0 : W.cell? ⟨k, 0, none⟩ = some (.int .i64 d.e.kind) := R.cell 0;have d1 : W.cell? ⟨k, 1, none⟩ = some (.string (str d.e.s)) := R.cell 1;have d2 : W.cell? ⟨k, 2, none⟩ = some (.int .i64 d.e.v.kind) := R.cell 2;have d3 : W.cell? ⟨k, 3, none⟩ = some (.int .i64 d.e.v.n) := R.cell 3;have d4 : W.cell? ⟨k, 4, none⟩ = some (.string (str d.e.v.s)) := R.cell 4;have d5 : W.cell? ⟨k, 5, none⟩ = some u := R.cell 5;have d6 : W.cell? ⟨k, 6, none⟩ = some (.int .i64 d.n) := R.cell 6;simp at h1;simp [results, Tryz.results152, h1, go_sem, d0, d1, d2, d3, d4, d5, d6]
set_option maxRecDepth 100000 in
set_option maxHeartbeats 8000000 in
theorem unary_any (g t o : Nat) (fr : Rl → List PT → PR Dp) (hR : RuleC g t o (.func (.func 152) #[pV g] #[]) (fr .unary)) (hC : RuleC g t o (.func (.func 129) #[pV g] #[]) (fr .or)) (h16 : ∀ l, Shal (fr .unary l)) (l' : List PT) (w : World) (h : PS w g t l' o) : Calls Tryz.prog 152 #[pV g] w (DoP g t o (stepT fr .unary l') (DpG w.heap.size) w) := by
 obtain ⟨F, hF⟩ : ∃ F, F = fr .unary := ⟨_, rfl⟩;obtain ⟨G, hG⟩ : ∃ G, G = fr .or := ⟨_, rfl⟩;obtain ⟨X, hX⟩ : ∃ X, X = stepT fr .unary l' := ⟨_, rfl⟩;rw [← hX];simp only [stepT] at hX;rw [← hF] at hR h16 hX;rw [← hG] at hC hX;clear hF hG;obtain ⟨l3, l4, l5⟩ := h.lt3;have HL3 := LH h.lt3;have HR := LH hR;have HC := LH hC;have H16 := LH h16;obtain ⟨off, c, hrow, hc, hm, hpos, t0, t1, t2, t3⟩ := h.open_;unfold maxLen at hm;have b0 := hrow.cell 0;simp only [List.getElem?_cons_zero] at b0;have hl0 : (0 : Int) < (l'.length : Int) := by omega
 obtain ⟨tk, htk⟩ : ∃ tk, tk = hdT l' := ⟨_, rfl⟩;rw [← htk] at t0 t1 t2 t3;have r0 := ((Row.new w 155 zdp).keep ((ST).alloc (.cells (tokCs tk).toArray 75)) tv).keep ((ST).alloc (.cells zval.toArray 31)) tv;have r1 := (Row.new (w.alloc (.cells zdp.toArray 155)) 75 (tokCs tk)).keep ((ST).alloc (.cells zval.toArray 31)) tv;have r2 := Row.new ((w.alloc (.cells zdp.toArray 155)).alloc (.cells (tokCs tk).toArray 75)) 31 zval;have hS1 := ((((Same.refl (fun _ => True) w).alloc (.cells zdp.toArray 155)).alloc (.cells (tokCs tk).toArray 75)).alloc (.cells zval.toArray 31));have hz1 : (((w.alloc (.cells zdp.toArray 155)).alloc (.cells (tokCs tk).toArray 75)).alloc (.cells zval.toArray 31)).heap.size = w.heap.size + 3 := by simp
 rw [World.size_alloc] at r1;rw [World.size_alloc, World.size_alloc] at r2;have HPw := LH (h.keep hS1);rw [← htk] at hX;have Htk := LH htk;have HX1 := LH hX;have HRR := LH r0;have HRT := LH r1;have HRV : Hid (Row _ (w.heap.size + 1 + 1) _ _) := LH r2;have HSw := LH (hS1.mono (S' := fun q => q ≠ g) fun _ _ _ => tv);have hgg : g < w.heap.size ∧ t < w.heap.size ∧ 1 < w.heap.size := ⟨l3, l4, l5⟩;clear h htk hR hC h16 hrow hX r0 r1 r2 hS1;have hmf : ∀ (fn : Fn) (first cap : Array Value) (w : World), (Instr.makeFunc fn first cap).run Tryz.prog w = .ok (.func fn first cap) w := fun _ _ _ _ => rfl
 go_enter Tryz.func152, Tryz.ntmps152;go_upto_region 4 with (fail);simp only [zdp, tokCs, zval] at HRR HRT HRV HSw HPw hz1;revert HRR HRT HRV HSw HPw hz1;generalize ((w.alloc _).alloc _).alloc _ = w1;intro hz1 HPw HRR HRT HRV HSw;trace_state;go_wp2_with (go_at_call 37; refine stopAt ?_);unfold Hid;refine (take_any g t l' o [45] w1 HPw.out).mono ?_;rintro e w2 ⟨rfl, hp, hS⟩;have hSz := hS.size;have HRR := LH (HRR.out.keep hS (by omega));have HRT := LH (HRT.out.keep hS (by omega));have HRV := LH (HRV.out.keep hS (by omega));have HSw := LH (HSw.out.trans hS);clear hS HPw;cases hq : isT [45] l'
 ·rw [hq, if_neg (by simp)] at hp;have hX1 := HX1.out;rw [hq, if_neg (by simp)] at hX1;have HX1 := LH hX1;have HPw := LH hp;clear hX1 hq hp;go_wp2_with (go_at_call 37; refine stopAt ?_);unfold Hid;refine (take_any g t l' o [40] w2 HPw.out).mono ?_;rintro e w3 ⟨rfl, hp, hS⟩;have hSz := hS.size;have HRR := LH (HRR.out.keep hS (by omega));have HRT := LH (HRT.out.keep hS (by omega));have HRV := LH (HRV.out.keep hS (by omega));have HSw := LH (HSw.out.trans hS);clear hS HPw;cases hq : isT [40] l'
  ·rw [hq, if_neg (by simp)] at hp;have hX1 := HX1.out;rw [hq, if_neg (by simp)] at hX1;have HX1 := LH hX1;have HPw := LH hp;clear hX1 hq hp;clear t0 t1 t2 t3 b0;by_cases hk2 : tk.2.kind = 2
   ·have hX1 := HX1.out;rw [if_pos hk2] at hX1;have HX0 := LH hX1;have Hkd : Hid ((hdT l').2.kind ≠ 0) := LH (by rw [← Htk.out]; omega);have hkr := HRT.out;obtain ⟨k0, k1, k2, k3⟩ := CN4 hkr;clear hkr;rw [hk2] at k0;clear hX1 HX1 k1 k2;have rv_ := HRV.out;obtain ⟨v0, v1, v2⟩ := CN3 rv_;obtain ⟨v3, v4, v5⟩ := FN3 rv_;have v6 := rv_.lt;clear rv_;have hS : Same (fun q => q ≠ w.heap.size + 1 + 1) w3 (((w3.setCell ⟨w.heap.size + 1 + 1, 0, none⟩ (.int .i64 2)).setCell ⟨w.heap.size + 1 + 1, 1, none⟩ (.int .i64 tk.2.n)).setCell ⟨w.heap.size + 1 + 1, 2, none⟩ (.string ⟨#[]⟩)) := Same.sets (fun h => h rfl) [(.int .i64 2), (.int .i64 tk.2.n), (.string ⟨#[]⟩)] 0 SR;have hp := HPw.out.keepB hS (by omega) (by omega) (by omega);have rV : Row (((w3.setCell ⟨w.heap.size + 1 + 1, 0, none⟩ (.int .i64 2)).setCell ⟨w.heap.size + 1 + 1, 1, none⟩ (.int .i64 tk.2.n)).setCell ⟨w.heap.size + 1 + 1, 2, none⟩ (.string ⟨#[]⟩)) (w.heap.size + 1 + 1) 31 [(.int .i64 2), (.int .i64 tk.2.n), (.string ⟨#[]⟩)] := HRV.out.sets [(.int .i64 2), (.int .i64 tk.2.n), (.string ⟨#[]⟩)] 0;have rR := HRR.out.keep hS (by omega);have hSs : Same (fun q => q ≠ g) w (((w3.setCell ⟨w.heap.size + 1 + 1, 0, none⟩ (.int .i64 2)).setCell ⟨w.heap.size + 1 + 1, 1, none⟩ (.int .i64 tk.2.n)).setCell ⟨w.heap.size + 1 + 1, 2, none⟩ (.string ⟨#[]⟩)) := Same.sets' (by omega) [(.int .i64 2), (.int .i64 tk.2.n), (.string ⟨#[]⟩)] 0 HSw.out;have hz := hS.size;go_upto_region 19 with (fail);clear v0 v1 v2 v3 v4 v5 v6;revert hS hp rV rR hSs hz;generalize ((w3.setCell _ _).setCell _ _).setCell _ _ = wy;intro hS hp rV rR hSs hz;obtain ⟨off, c, hrow, hc, hm, hl, hl2, hc1, t0, t1, t2, t3, HN⟩ := PS.step hp Hkd.out;unfold maxLen at hm;have b0 := hrow.cell 0;simp only [List.getElem?_cons_zero] at b0;have f0 := hrow.frozen 0;have hl0 : (0 : Int) < (l'.length : Int) := by omega
    clear hrow;have hSg : Same (fun q => q ≠ g) wy (wy.setCell ⟨g, 0, none⟩ (.slice (some ⟨t, off + 4, none⟩) (l'.length - 1) (c - 1))) := SR.setCell (fun _ h => h rfl) _;have hzg := size_set wy ⟨g, 0, none⟩ (.slice (some ⟨t, off + 4, none⟩) (l'.length - 1) (c - 1));have rV := rV.keep hSg (by omega);have rR := rR.keep hSg (by omega);have hSs := hSs.trans hSg;have HN := LH HN;have HV := LH rV;have HRR := LH rR;have HSs := LH hSs;clear rV rR hSs hSg hp HRV HSw HPw HRT;go_upto_region 20 with (fail);revert HN HV HRR HSs hzg;generalize wy.setCell _ _ = wz;intro hzg HN HV HRR HSs;have rv_ := HV.out;obtain ⟨v0, v1, v2⟩ := CN3 rv_;clear rv_ t0 t1 t2 t3 b0 f0;have HPx : Hid (PS wz g t l'.tail o) := LH HN.out;have HRx := HRR;have HEx : Hid (ExR wz (fun q => w.heap.size + 1 ≤ q) (.slice none 0 0) (leafV ⟨2, tk.2.n, []⟩).e) := LH (ExR.lf _ _ _ _ _);have HSx := HSs;obtain ⟨hD, hG, hB, hC⟩ := fin_dp (u := .slice none 0 0) (d := ((leafV ⟨2, tk.2.n, []⟩))) HPx.out HL3.out HRx.out HEx.out HSx.out;have HD := LH hD;have HG := LH hG;have HB := LH hB;have HC := LH hC;clear hD hG hB hC;have rr := HRx.out;obtain ⟨q0, q1, q2, q3, q4, q5, q6⟩ := CN7 rr;obtain ⟨x0, x1, x2, x3, x4, x5, x6⟩ := FN7 rr;have zr := rr.lt;clear rr;go_wp2;refine bodyPost_ret (unary_results (u := .slice none 0 0) (d := ((leafV ⟨2, tk.2.n, []⟩))) (show Row _ _ _ (dpCs (.slice none 0 0) (leafV ⟨2, tk.2.n, []⟩)) from HD.out) rfl) rfl ?_;rw [HX0.out];exact ⟨_, rfl, HG.out, HB.out, HC.out⟩
   by_cases hk3 : tk.2.kind = 3
   ·have hX1 := HX1.out;rw [if_neg hk2, if_pos hk3] at hX1;have HX0 := LH hX1;have Hkd : Hid ((hdT l').2.kind ≠ 0) := LH (by rw [← Htk.out]; omega);have hkr := HRT.out;obtain ⟨k0, k1, k2, k3⟩ := CN4 hkr;clear hkr;rw [hk3] at k0;clear hX1 HX1 k1;have rv_ := HRV.out;obtain ⟨v0, v1, v2⟩ := CN3 rv_;obtain ⟨v3, v4, v5⟩ := FN3 rv_;have v6 := rv_.lt;clear rv_;have hS : Same (fun q => q ≠ w.heap.size + 1 + 1) w3 (((w3.setCell ⟨w.heap.size + 1 + 1, 0, none⟩ (.int .i64 3)).setCell ⟨w.heap.size + 1 + 1, 1, none⟩ (.int .i64 0)).setCell ⟨w.heap.size + 1 + 1, 2, none⟩ (.string (str tk.2.s))) := Same.sets (fun h => h rfl) [(.int .i64 3), (.int .i64 0), (.string (str tk.2.s))] 0 SR;have hp := HPw.out.keepB hS (by omega) (by omega) (by omega);have rV : Row (((w3.setCell ⟨w.heap.size + 1 + 1, 0, none⟩ (.int .i64 3)).setCell ⟨w.heap.size + 1 + 1, 1, none⟩ (.int .i64 0)).setCell ⟨w.heap.size + 1 + 1, 2, none⟩ (.string (str tk.2.s))) (w.heap.size + 1 + 1) 31 [(.int .i64 3), (.int .i64 0), (.string (str tk.2.s))] := HRV.out.sets [(.int .i64 3), (.int .i64 0), (.string (str tk.2.s))] 0;have rR := HRR.out.keep hS (by omega);have hSs : Same (fun q => q ≠ g) w (((w3.setCell ⟨w.heap.size + 1 + 1, 0, none⟩ (.int .i64 3)).setCell ⟨w.heap.size + 1 + 1, 1, none⟩ (.int .i64 0)).setCell ⟨w.heap.size + 1 + 1, 2, none⟩ (.string (str tk.2.s))) := Same.sets' (by omega) [(.int .i64 3), (.int .i64 0), (.string (str tk.2.s))] 0 HSw.out;have hz := hS.size;go_upto_region 19 with (fail);clear v0 v1 v2 v3 v4 v5 v6;revert hS hp rV rR hSs hz;generalize ((w3.setCell _ _).setCell _ _).setCell _ _ = wy;intro hS hp rV rR hSs hz;obtain ⟨off, c, hrow, hc, hm, hl, hl2, hc1, t0, t1, t2, t3, HN⟩ := PS.step hp Hkd.out;unfold maxLen at hm;have b0 := hrow.cell 0;simp only [List.getElem?_cons_zero] at b0;have f0 := hrow.frozen 0;have hl0 : (0 : Int) < (l'.length : Int) := by omega
    clear hrow;have hSg : Same (fun q => q ≠ g) wy (wy.setCell ⟨g, 0, none⟩ (.slice (some ⟨t, off + 4, none⟩) (l'.length - 1) (c - 1))) := SR.setCell (fun _ h => h rfl) _;have hzg := size_set wy ⟨g, 0, none⟩ (.slice (some ⟨t, off + 4, none⟩) (l'.length - 1) (c - 1));have rV := rV.keep hSg (by omega);have rR := rR.keep hSg (by omega);have hSs := hSs.trans hSg;have HN := LH HN;have HV := LH rV;have HRR := LH rR;have HSs := LH hSs;clear rV rR hSs hSg hp HRV HSw HPw HRT;go_upto_region 20 with (fail);revert HN HV HRR HSs hzg;generalize wy.setCell _ _ = wz;intro hzg HN HV HRR HSs;have rv_ := HV.out;obtain ⟨v0, v1, v2⟩ := CN3 rv_;clear rv_ t0 t1 t2 t3 b0 f0;have HPx : Hid (PS wz g t l'.tail o) := LH HN.out;have HRx := HRR;have HEx : Hid (ExR wz (fun q => w.heap.size + 1 ≤ q) (.slice none 0 0) (leafV ⟨3, 0, tk.2.s⟩).e) := LH (ExR.lf _ _ _ _ _);have HSx := HSs;obtain ⟨hD, hG, hB, hC⟩ := fin_dp (u := .slice none 0 0) (d := ((leafV ⟨3, 0, tk.2.s⟩))) HPx.out HL3.out HRx.out HEx.out HSx.out;have HD := LH hD;have HG := LH hG;have HB := LH hB;have HC := LH hC;clear hD hG hB hC;have rr := HRx.out;obtain ⟨q0, q1, q2, q3, q4, q5, q6⟩ := CN7 rr;obtain ⟨x0, x1, x2, x3, x4, x5, x6⟩ := FN7 rr;have zr := rr.lt;clear rr;go_wp2;refine bodyPost_ret (unary_results (u := .slice none 0 0) (d := ((leafV ⟨3, 0, tk.2.s⟩))) (show Row _ _ _ (dpCs (.slice none 0 0) (leafV ⟨3, 0, tk.2.s⟩)) from HD.out) rfl) rfl ?_;rw [HX0.out];exact ⟨_, rfl, HG.out, HB.out, HC.out⟩
   have hX1 := HX1.out;rw [if_neg hk2, if_neg hk3] at hX1;have HX1 := LH hX1;have hkr := HRT.out;obtain ⟨k0, k1, k2, k3⟩ := CN4 hkr;clear hkr;have e2 : ((tk.2.kind : Int) == 2) = false := no_kind hk2;have e3 : ((tk.2.kind : Int) == 3) = false := no_kind hk3;clear hX1 hk2 hk3;go_wp2_with (go_at_call 86; refine stopAt ?_);unfold Hid;refine (is_any g t l' o wTRUE w3 HPw.out).mono ?_;rintro e w6 ⟨rfl, hS⟩;have hp := HPw.out.keep hS;have hS := hS.mono (S' := fun q => q ≠ g) fun _ _ _ => tv
   have hSz := hS.size;have HRR := LH (HRR.out.keep hS (by omega));have HRT := LH (HRT.out.keep hS (by omega));have HRV := LH (HRV.out.keep hS (by omega));have HSw := LH (HSw.out.trans hS);clear hS HPw;have HPw := LH hp;clear hp;cases hq : isT wTRUE l'
   ·have hX1 := HX1.out;rw [hq, if_neg (by simp)] at hX1;have HX1 := LH hX1;clear hX1 hq;go_wp2_with (go_at_call 86; refine stopAt ?_);unfold Hid;refine (is_any g t l' o wFALSE w6 HPw.out).mono ?_;rintro e w7 ⟨rfl, hS⟩;have hp := HPw.out.keep hS;have hS := hS.mono (S' := fun q => q ≠ g) fun _ _ _ => tv
    have hSz := hS.size;have HRR := LH (HRR.out.keep hS (by omega));have HRT := LH (HRT.out.keep hS (by omega));have HRV := LH (HRV.out.keep hS (by omega));have HSw := LH (HSw.out.trans hS);clear hS HPw;have HPw := LH hp;clear hp;cases hq : isT wFALSE l'
    ·have hX1 := HX1.out;rw [hq, if_neg (by simp)] at hX1;have HX1 := LH hX1;clear hX1 hq;go_wp2_with (go_at_call 86; refine stopAt ?_);unfold Hid;refine (is_any g t l' o wNULL w7 HPw.out).mono ?_;rintro e w8 ⟨rfl, hS⟩;have hp := HPw.out.keep hS;have hS := hS.mono (S' := fun q => q ≠ g) fun _ _ _ => tv
     have hSz := hS.size;have HRR := LH (HRR.out.keep hS (by omega));have HRT := LH (HRT.out.keep hS (by omega));have HRV := LH (HRV.out.keep hS (by omega));have HSw := LH (HSw.out.trans hS);clear hS HPw;have HPw := LH hp;clear hp;cases hq : isT wNULL l'
     ·have hX1 := HX1.out;rw [hq, if_neg (by simp)] at hX1;have HX1 := LH hX1;clear hX1 hq;go_wp2_with (go_at_call 84; refine stopAt ?_);unfold Hid;refine (name_any g t l' o w8 HPw.out).mono ?_;intro e w9 h9;cases hx : nameT l' with
      | error p =>
       rw [hx] at h9;obtain ⟨rfl, hS9⟩ := h9
       have hq : DoP g t o X (DpG w.heap.size) w (.panicked [{ v := failV p.1 p.2, recovered := false }]) w9 := by
        rw [HX1.out, hx];exact DoP.err ⟨rfl, hS9⟩ HSw.out fun _ h => h
       exact ⟨rfl, hq⟩
      | ok q =>
       obtain ⟨nm, l2⟩ := q;rw [hx] at h9;obtain ⟨v, rfl, rfl, hp9, hS9⟩ := h9;have hX2 := HX1.out;rw [hx, thenT_ok] at hX2;have HX2 := LH hX2;have HPx := LH hp9;have HRx := LH (HRR.out.keep hS9 (by omega));have HEx : Hid (ExR w9 (fun q => w.heap.size + 1 ≤ q) (.slice none 0 0) (Ex.mk 2 nm .zero [])) := LH (ExR.lf _ _ _ _ _);have HSx := LH (HSw.out.trans hS9);clear hx hX2 hp9 hS9;obtain ⟨hD, hG, hB, hC⟩ := fin_dp (u := .slice none 0 0) (d := ⟨.mk 2 nm .zero [], 1⟩) HPx.out HL3.out HRx.out HEx.out HSx.out;have HD := LH hD;have HG := LH hG;have HB := LH hB;have HC := LH hC;clear hD hG hB hC;have rr := HRx.out;obtain ⟨q0, q1, q2, q3, q4, q5, q6⟩ := CN7 rr;obtain ⟨x0, x1, x2, x3, x4, x5, x6⟩ := FN7 rr;have zr := rr.lt;clear rr;go_wp2;refine bodyPost_ret (unary_results (u := .slice none 0 0) (d := ⟨.mk 2 nm .zero [], 1⟩) (show Row _ _ _ (dpCs (.slice none 0 0) ⟨.mk 2 nm .zero [], 1⟩) from HD.out) rfl) rfl ?_;rw [HX2.out];exact ⟨_, rfl, HG.out, HB.out, HC.out⟩
     ·have hX1 := HX1.out;rw [hq, if_pos rfl] at hX1;have HX0 := LH hX1;have Hkd := LH (isT_kind hq);clear hX1 hq HX1;have hp := HPw.out;have rV := HRV.out;have rR := HRR.out;have hSs := HSw.out;obtain ⟨off, c, hrow, hc, hm, hl, hl2, hc1, t0, t1, t2, t3, HN⟩ := PS.step hp Hkd.out;unfold maxLen at hm;have b0 := hrow.cell 0;simp only [List.getElem?_cons_zero] at b0;have f0 := hrow.frozen 0;have hl0 : (0 : Int) < (l'.length : Int) := by omega
      clear hrow;have hSg : Same (fun q => q ≠ g) w8 (w8.setCell ⟨g, 0, none⟩ (.slice (some ⟨t, off + 4, none⟩) (l'.length - 1) (c - 1))) := SR.setCell (fun _ h => h rfl) _;have hzg := size_set w8 ⟨g, 0, none⟩ (.slice (some ⟨t, off + 4, none⟩) (l'.length - 1) (c - 1));have rV := rV.keep hSg (by omega);have rR := rR.keep hSg (by omega);have hSs := hSs.trans hSg;have HN := LH HN;have HV := LH rV;have HRR := LH rR;have HSs := LH hSs;clear rV rR hSs hSg hp HRV HSw HPw HRT;go_upto_region 20 with (fail);revert HN HV HRR HSs hzg;generalize w8.setCell _ _ = wz;intro hzg HN HV HRR HSs;have rv_ := HV.out;obtain ⟨v0, v1, v2⟩ := CN3 rv_;clear rv_ t0 t1 t2 t3 b0 f0;have HPx : Hid (PS wz g t l'.tail o) := LH HN.out;have HRx := HRR;have HEx : Hid (ExR wz (fun q => w.heap.size + 1 ≤ q) (.slice none 0 0) (leafV ⟨0, 0, []⟩).e) := LH (ExR.lf _ _ _ _ _);have HSx := HSs;obtain ⟨hD, hG, hB, hC⟩ := fin_dp (u := .slice none 0 0) (d := ((leafV ⟨0, 0, []⟩))) HPx.out HL3.out HRx.out HEx.out HSx.out;have HD := LH hD;have HG := LH hG;have HB := LH hB;have HC := LH hC;clear hD hG hB hC;have rr := HRx.out;obtain ⟨q0, q1, q2, q3, q4, q5, q6⟩ := CN7 rr;obtain ⟨x0, x1, x2, x3, x4, x5, x6⟩ := FN7 rr;have zr := rr.lt;clear rr;go_wp2;refine bodyPost_ret (unary_results (u := .slice none 0 0) (d := ((leafV ⟨0, 0, []⟩))) (show Row _ _ _ (dpCs (.slice none 0 0) (leafV ⟨0, 0, []⟩)) from HD.out) rfl) rfl ?_;rw [HX0.out];exact ⟨_, rfl, HG.out, HB.out, HC.out⟩
    ·have hX1 := HX1.out;rw [hq, if_pos rfl] at hX1;have HX0 := LH hX1;have Hkd := LH (isT_kind hq);clear hX1 hq HX1;have rv_ := HRV.out;obtain ⟨v0, v1, v2⟩ := CN3 rv_;obtain ⟨v3, v4, v5⟩ := FN3 rv_;have v6 := rv_.lt;clear rv_;have hS : Same (fun q => q ≠ w.heap.size + 1 + 1) w7 (((w7.setCell ⟨w.heap.size + 1 + 1, 0, none⟩ (.int .i64 1)).setCell ⟨w.heap.size + 1 + 1, 1, none⟩ (.int .i64 0)).setCell ⟨w.heap.size + 1 + 1, 2, none⟩ (.string ⟨#[]⟩)) := Same.sets (fun h => h rfl) [(.int .i64 1), (.int .i64 0), (.string ⟨#[]⟩)] 0 SR;have hp := HPw.out.keepB hS (by omega) (by omega) (by omega);have rV : Row (((w7.setCell ⟨w.heap.size + 1 + 1, 0, none⟩ (.int .i64 1)).setCell ⟨w.heap.size + 1 + 1, 1, none⟩ (.int .i64 0)).setCell ⟨w.heap.size + 1 + 1, 2, none⟩ (.string ⟨#[]⟩)) (w.heap.size + 1 + 1) 31 [(.int .i64 1), (.int .i64 0), (.string ⟨#[]⟩)] := HRV.out.sets [(.int .i64 1), (.int .i64 0), (.string ⟨#[]⟩)] 0;have rR := HRR.out.keep hS (by omega);have hSs : Same (fun q => q ≠ g) w (((w7.setCell ⟨w.heap.size + 1 + 1, 0, none⟩ (.int .i64 1)).setCell ⟨w.heap.size + 1 + 1, 1, none⟩ (.int .i64 0)).setCell ⟨w.heap.size + 1 + 1, 2, none⟩ (.string ⟨#[]⟩)) := Same.sets' (by omega) [(.int .i64 1), (.int .i64 0), (.string ⟨#[]⟩)] 0 HSw.out;have hz := hS.size;have hkr := HRT.out;obtain ⟨k0, k1, k2, k3⟩ := CN4 hkr;clear hkr;go_upto_region 19 with (fail);clear v0 v1 v2 v3 v4 v5 v6;revert hS hp rV rR hSs hz;generalize ((w7.setCell _ _).setCell _ _).setCell _ _ = wy;intro hS hp rV rR hSs hz;obtain ⟨off, c, hrow, hc, hm, hl, hl2, hc1, t0, t1, t2, t3, HN⟩ := PS.step hp Hkd.out;unfold maxLen at hm;have b0 := hrow.cell 0;simp only [List.getElem?_cons_zero] at b0;have f0 := hrow.frozen 0;have hl0 : (0 : Int) < (l'.length : Int) := by omega
     clear hrow;have hSg : Same (fun q => q ≠ g) wy (wy.setCell ⟨g, 0, none⟩ (.slice (some ⟨t, off + 4, none⟩) (l'.length - 1) (c - 1))) := SR.setCell (fun _ h => h rfl) _;have hzg := size_set wy ⟨g, 0, none⟩ (.slice (some ⟨t, off + 4, none⟩) (l'.length - 1) (c - 1));have rV := rV.keep hSg (by omega);have rR := rR.keep hSg (by omega);have hSs := hSs.trans hSg;have HN := LH HN;have HV := LH rV;have HRR := LH rR;have HSs := LH hSs;clear rV rR hSs hSg hp HRV HSw HPw HRT;go_upto_region 20 with (fail);revert HN HV HRR HSs hzg;generalize wy.setCell _ _ = wz;intro hzg HN HV HRR HSs;have rv_ := HV.out;obtain ⟨v0, v1, v2⟩ := CN3 rv_;clear rv_ t0 t1 t2 t3 b0 f0;have HPx : Hid (PS wz g t l'.tail o) := LH HN.out;have HRx := HRR;have HEx : Hid (ExR wz (fun q => w.heap.size + 1 ≤ q) (.slice none 0 0) (leafV ⟨1, 0, []⟩).e) := LH (ExR.lf _ _ _ _ _);have HSx := HSs;obtain ⟨hD, hG, hB, hC⟩ := fin_dp (u := .slice none 0 0) (d := ((leafV ⟨1, 0, []⟩))) HPx.out HL3.out HRx.out HEx.out HSx.out;have HD := LH hD;have HG := LH hG;have HB := LH hB;have HC := LH hC;clear hD hG hB hC;have rr := HRx.out;obtain ⟨q0, q1, q2, q3, q4, q5, q6⟩ := CN7 rr;obtain ⟨x0, x1, x2, x3, x4, x5, x6⟩ := FN7 rr;have zr := rr.lt;clear rr;go_wp2;refine bodyPost_ret (unary_results (u := .slice none 0 0) (d := ((leafV ⟨1, 0, []⟩))) (show Row _ _ _ (dpCs (.slice none 0 0) (leafV ⟨1, 0, []⟩)) from HD.out) rfl) rfl ?_;rw [HX0.out];exact ⟨_, rfl, HG.out, HB.out, HC.out⟩
   ·have hX1 := HX1.out;rw [hq, if_pos rfl] at hX1;have HX0 := LH hX1;have Hkd := LH (isT_kind hq);clear hX1 hq HX1;have rv_ := HRV.out;obtain ⟨v0, v1, v2⟩ := CN3 rv_;obtain ⟨v3, v4, v5⟩ := FN3 rv_;have v6 := rv_.lt;clear rv_;have hS : Same (fun q => q ≠ w.heap.size + 1 + 1) w6 (((w6.setCell ⟨w.heap.size + 1 + 1, 0, none⟩ (.int .i64 1)).setCell ⟨w.heap.size + 1 + 1, 1, none⟩ (.int .i64 1)).setCell ⟨w.heap.size + 1 + 1, 2, none⟩ (.string ⟨#[]⟩)) := Same.sets (fun h => h rfl) [(.int .i64 1), (.int .i64 1), (.string ⟨#[]⟩)] 0 SR;have hp := HPw.out.keepB hS (by omega) (by omega) (by omega);have rV : Row (((w6.setCell ⟨w.heap.size + 1 + 1, 0, none⟩ (.int .i64 1)).setCell ⟨w.heap.size + 1 + 1, 1, none⟩ (.int .i64 1)).setCell ⟨w.heap.size + 1 + 1, 2, none⟩ (.string ⟨#[]⟩)) (w.heap.size + 1 + 1) 31 [(.int .i64 1), (.int .i64 1), (.string ⟨#[]⟩)] := HRV.out.sets [(.int .i64 1), (.int .i64 1), (.string ⟨#[]⟩)] 0;have rR := HRR.out.keep hS (by omega);have hSs : Same (fun q => q ≠ g) w (((w6.setCell ⟨w.heap.size + 1 + 1, 0, none⟩ (.int .i64 1)).setCell ⟨w.heap.size + 1 + 1, 1, none⟩ (.int .i64 1)).setCell ⟨w.heap.size + 1 + 1, 2, none⟩ (.string ⟨#[]⟩)) := Same.sets' (by omega) [(.int .i64 1), (.int .i64 1), (.string ⟨#[]⟩)] 0 HSw.out;have hz := hS.size;have hkr := HRT.out;obtain ⟨k0, k1, k2, k3⟩ := CN4 hkr;clear hkr;go_upto_region 19 with (fail);clear v0 v1 v2 v3 v4 v5 v6;revert hS hp rV rR hSs hz;generalize ((w6.setCell _ _).setCell _ _).setCell _ _ = wy;intro hS hp rV rR hSs hz;obtain ⟨off, c, hrow, hc, hm, hl, hl2, hc1, t0, t1, t2, t3, HN⟩ := PS.step hp Hkd.out;unfold maxLen at hm;have b0 := hrow.cell 0;simp only [List.getElem?_cons_zero] at b0;have f0 := hrow.frozen 0;have hl0 : (0 : Int) < (l'.length : Int) := by omega
    clear hrow;have hSg : Same (fun q => q ≠ g) wy (wy.setCell ⟨g, 0, none⟩ (.slice (some ⟨t, off + 4, none⟩) (l'.length - 1) (c - 1))) := SR.setCell (fun _ h => h rfl) _;have hzg := size_set wy ⟨g, 0, none⟩ (.slice (some ⟨t, off + 4, none⟩) (l'.length - 1) (c - 1));have rV := rV.keep hSg (by omega);have rR := rR.keep hSg (by omega);have hSs := hSs.trans hSg;have HN := LH HN;have HV := LH rV;have HRR := LH rR;have HSs := LH hSs;clear rV rR hSs hSg hp HRV HSw HPw HRT;go_upto_region 20 with (fail);revert HN HV HRR HSs hzg;generalize wy.setCell _ _ = wz;intro hzg HN HV HRR HSs;have rv_ := HV.out;obtain ⟨v0, v1, v2⟩ := CN3 rv_;clear rv_ t0 t1 t2 t3 b0 f0;have HPx : Hid (PS wz g t l'.tail o) := LH HN.out;have HRx := HRR;have HEx : Hid (ExR wz (fun q => w.heap.size + 1 ≤ q) (.slice none 0 0) (leafV ⟨1, 1, []⟩).e) := LH (ExR.lf _ _ _ _ _);have HSx := HSs;obtain ⟨hD, hG, hB, hC⟩ := fin_dp (u := .slice none 0 0) (d := ((leafV ⟨1, 1, []⟩))) HPx.out HL3.out HRx.out HEx.out HSx.out;have HD := LH hD;have HG := LH hG;have HB := LH hB;have HC := LH hC;clear hD hG hB hC;have rr := HRx.out;obtain ⟨q0, q1, q2, q3, q4, q5, q6⟩ := CN7 rr;obtain ⟨x0, x1, x2, x3, x4, x5, x6⟩ := FN7 rr;have zr := rr.lt;clear rr;go_wp2;refine bodyPost_ret (unary_results (u := .slice none 0 0) (d := ((leafV ⟨1, 1, []⟩))) (show Row _ _ _ (dpCs (.slice none 0 0) (leafV ⟨1, 1, []⟩)) from HD.out) rfl) rfl ?_;rw [HX0.out];exact ⟨_, rfl, HG.out, HB.out, HC.out⟩
  ·rw [hq, if_pos rfl] at hp;have hX1 := HX1.out;rw [hq, if_pos rfl] at hX1;have HX0 := LH hX1;have HPw := LH hp;clear hX1 hq hp HX1;go_wp2_with (go_at_call 128; refine stopAt ?_);unfold Hid;refine (HC.out l'.tail w3 HPw.out).mono ?_;intro e w4 h4;cases hx : G l'.tail with
   | error p =>
    rw [hx] at h4;obtain ⟨rfl, hS4⟩ := h4
    have hq : DoP g t o X (DpG w.heap.size) w (.panicked [{ v := failV p.1 p.2, recovered := false }]) w4 := by
     rw [HX0.out, hx];exact DoP.err ⟨rfl, hS4⟩ HSw.out fun _ h => h
    exact ⟨rfl, hq⟩
   | ok q =>
    obtain ⟨d, l1⟩ := q;rw [hx] at h4;obtain ⟨v, rfl, ⟨u, rfl, hex⟩, hp4, hS4⟩ := h4;obtain ⟨Au, cu, rfl, -, -⟩ := hex.toL.form;have hX1 := HX0.out;rw [hx, thenT_ok] at hX1;have HX1 := LH hX1;generalize d.e.args.length = nu at *;have hz4 := hS4.size;have hw3 : w.heap.size + 3 ≤ w3.heap.size := by omega
    have HRR := LH (HRR.out.keep hS4 (by omega));have HSw := LH (HSw.out.trans hS4);have rd := (Row.new w4 155 (dpCs (.slice Au nu cu) d)).keep ((ST).alloc (.cells (strCs [[41]]).toArray 9)) tv;have hS5 := ((Same.refl (fun _ => True) w4).alloc (.cells (dpCs (.slice Au nu cu) d).toArray 155)).alloc (.cells (strCs [[41]]).toArray 9);have hss := StrR.new (w4.alloc (.cells (dpCs (.slice Au nu cu) d).toArray 155)) g (by simp; omega) [[41]] (by simp [maxLen]);have hz5 : ((w4.alloc (.cells (dpCs (.slice Au nu cu) d).toArray 155)).alloc (.cells (strCs [[41]]).toArray 9)).heap.size = w4.heap.size + 2 := by simp
    simp only [List.length_cons, List.length_nil, Nat.zero_add, Nat.reduceAdd, World.size_alloc] at hss;have HP4 := LH hp4;have HE4 := LH hex;clear hx hX1 hp4 hex hS4;go_wp2_with (go_at_call 40; refine stopAt ?_);unfold Hid;simp only [dpCs, strCs, List.map_cons, List.map_nil, show str [41] = ⟨#[41]⟩ from rfl] at rd hS5 hz5 hss;revert rd hS5 hz5 hss;generalize (w4.alloc _).alloc _ = w5;intro rd hS5 hz5 hss;have hp5 := HP4.out.keep hS5;have HRR := LH (HRR.out.keep hS5 tv);have HSw := LH (HSw.out.trans (hS5.mono (S' := fun q => q ≠ g) fun _ _ _ => tv));have HE5 := LH (HE4.out.keepAll hS5);refine (must_any g t l1 o [[41]] _ w5 hp5 hss).mono ?_;intro e w6 h6;clear hss hp5 hS5;cases hm : mustT [[41]] l1 with
    | error p =>
     rw [hm] at h6;obtain ⟨rfl, hS6⟩ := h6
     have hq : DoP g t o X (DpG w.heap.size) w (.panicked [{ v := failV p.1 p.2, recovered := false }]) w6 := by
      rw [HX1.out, hm];exact DoP.err ⟨rfl, hS6⟩ HSw.out fun _ h => h
     exact ⟨rfl, hq⟩
    | ok q =>
     obtain ⟨⟨⟩, l2⟩ := q;rw [hm] at h6;obtain ⟨v, rfl, rfl, hp6, hS6⟩ := h6;have hX2 := HX1.out;rw [hm, thenT_ok] at hX2;have HX2 := LH hX2;have hyr := rd.keep hS6 (by omega);obtain ⟨y0, y1, y2, y3, y4, y5, y6⟩ := CN7 hyr;have HPx := LH hp6;have HRx := LH (HRR.out.keep hS6 (by omega));have HEx := LH ((HE5.out.keep (hS6.mono fun q _ h => by have h : w3.heap.size ≤ q := h; omega)).mono (S' := fun q => w.heap.size + 1 ≤ q) fun q _ h => by have h : w3.heap.size ≤ q := h; omega);have HSx := LH (HSw.out.trans hS6);clear hm hX2 hyr hp6 hS6 rd;obtain ⟨hD, hG, hB, hC⟩ := fin_dp (u := .slice Au nu cu) (d := d) HPx.out HL3.out HRx.out HEx.out HSx.out;have HD := LH hD;have HG := LH hG;have HB := LH hB;have HC := LH hC;clear hD hG hB hC;have rr := HRx.out;obtain ⟨q0, q1, q2, q3, q4, q5, q6⟩ := CN7 rr;obtain ⟨x0, x1, x2, x3, x4, x5, x6⟩ := FN7 rr;have zr := rr.lt;clear rr;go_wp2;refine bodyPost_ret (unary_results (u := .slice Au nu cu) (d := d) (show Row _ _ _ (dpCs (.slice Au nu cu) d) from HD.out) rfl) rfl ?_;rw [HX2.out];exact ⟨_, rfl, HG.out, HB.out, HC.out⟩
 ·rw [hq, if_pos rfl] at hp;have hX1 := HX1.out;rw [hq, if_pos rfl] at hX1;have HX0 := LH hX1;have HPw := LH hp;clear hX1 hq hp HX1;have htok : TR g w.heap.size (w.heap.size + 1) := ⟨by omega, by omega⟩;have HRw := HRR;have hkr := HRT.out;obtain ⟨k0, k1, k2, k3⟩ := CN4 hkr;clear hkr;go_upto_region 5 with (fail);obtain ⟨x, hxe⟩ : ∃ x, x = F l'.tail := ⟨_, rfl⟩;have Hxe := LH hxe;have hgB : g < w.heap.size + 1 := by omega
  have HXr : Hid (∀ p, x = .error p → X = .error p) := LH fun p hp => by rw [HX0.out, ← hxe, hp]; rfl
  have HXo : Hid (x = .ok (valT x, leftT x) → 16 < deepOf [valT x] + 1 → X = .error (tk.1, 3)) := LH fun hp hd => by
   rw [HX0.out, ← hxe]
   conv => lhs; rw [hp]
   rw [thenT_ok];unfold opT;rw [if_pos hd]
  have HXk : Hid (x = .ok (valT x, leftT x) → deepOf [valT x] ≤ 15 → X = .ok (opD wNEG [valT x], leftT x)) := LH fun hp hd => by
   rw [HX0.out, ← hxe]
   conv => lhs; rw [hp]
   rw [thenT_ok, opT_ok hd]
  have HD16 : Hid (x = .ok (valT x, leftT x) → ∀ d' ∈ [valT x], d'.n ≤ 1000000) := LH fun hp d' hd' => by
   have := H16.out l'.tail (valT x) (leftT x) (hxe.symm.trans hp);simp only [List.mem_cons, List.not_mem_nil, or_false] at hd';subst hd'; omega
  have HST : Hid (RegS g t o w.heap.size (w.heap.size + 1) l'.tail (leftT x) zdp (opD wNEG [valT x]) (x = .ok (valT x, leftT x) ∧ deepOf [valT x] ≤ 15) false false w2.drew) := LH (RegS.keep (W := w2) ⟨HPw.out, fun _ => HRw.out, fun h => by cases h⟩ SR.drew);have HS3 := HSw;clear hxe;refine wp_region_full_lit (T := TR g (w.heap.size)) (L := [some (.eq (tokV4 tk)), some (.eq (pV g)), some (.eq (pV g)), some (.eq (.func (.func 152) #[pV g] #[])), some (RuS g (w.heap.size) (w.heap.size + 1) hgB x), some (SlS g (w.heap.size) (w.heap.size + 1) hgB [valT x] (x = .ok (valT x, leftT x))), some (OpS g (w.heap.size) (w.heap.size + 1) hgB (opD wNEG [valT x]) (x = .ok (valT x, leftT x) ∧ deepOf [valT x] ≤ 15)), none]) (fun f _ W => RegS g t o (w.heap.size) (w.heap.size + 1) l'.tail (leftT x) (zdp) (opD wNEG [valT x]) (x = .ok (valT x, leftT x) ∧ deepOf [valT x] ≤ 15) (f 4) (f 7) W) (by kernel_rfl) (by kernel_rfl) (by rfl) rfl ?_ ?_ ?_
  ·exact HST.out
  ·refine ⟨?_, ?_, ?_, ?_, ?_, ?_, ?_, ?_, tv⟩
   all_goals (intro ac wc f hs hst hni hwt hdn hd hz hf hw K hK;generalize hU : valF _ ac = U at hst hK)
   ·have e0 := EP 3 (w.heap.size + 1) 0 (hf 3 rfl);have m0 := MC k0 hs htok;have m1 := MC k1 hs htok;have m2 := MC k2 hs htok;have m3 := MC k3 hs htok;clear hd hz hf hw;simp only [if_true, RL, e0];go_simp;exact hK _ _ (fun _ => rfl) SR hst
   ·have e0 := EV 0 (pV g) (hf 0 rfl);clear hd hz hf hw;simp only [if_true, RL, e0];go_simp;exact hK _ _ (fun _ => rfl) SR hst
   ·have e0 := EV 0 (pV g) (hf 0 rfl);clear hd hz hf hw;simp only [if_true, RL, e0];go_simp;exact hK _ _ (fun _ => rfl) SR hst
   ·have e0 := EV 22 (pV g) (hw 2 rfl);clear hd hz hf hw;simp only [if_true, RL, e0];go_simp;exact hK _ _ (fun _ => rfl) SR hst
   ·have e0 := EV 21 (pV g) (hw 1 rfl);have e1 := EV 23 (.func (.func 152) #[pV g] #[]) (hw 3 rfl);have Hdf := LH (show ac.defers = [] from hd)
    have h9 : f 7 = false := by
     cases h : f 7 with
     | false => rfl
     | true => (have h8 := hdn 7 6 rfl h; have h7 := hdn 6 5 rfl h8; have h6 := hdn 5 4 rfl h7; rw [hni] at h6; cases h6)
    have hps : PS wc g t l'.tail o := by
     have := hst.1;rw [hni] at this;exact this
    have hrd := hst.2.1 h9;clear hd hz hf hw;simp only [if_true, RL, e0, e1];go_simp;refine (HR.out l'.tail wc hps).mono ?_;intro e wd h1;cases hx : F l'.tail with
    | error p =>
     rw [hx] at h1;obtain ⟨rfl, hSp⟩ := h1
     have hq : DoP g t o X (DpG w.heap.size) w (.panicked [{ v := failV p.1 p.2, recovered := false }]) wd := by
      rw [HXr.out p (Hxe.out.trans hx)];exact DoP.err ⟨rfl, hSp⟩ (HS3.out.trans' hs fun q hq h => ⟨h, by omega⟩) fun _ h => h
     exact ⟨Hdf.out, hq⟩
    | ok q =>
     rw [hx] at h1;obtain ⟨v', rfl, ⟨u2, rfl, hex2⟩, hp2, hS2⟩ := h1;have hxx : x = .ok (valT x, leftT x) := by rw [Hxe.out, hx]; rfl
     have hx1 : valT x = q.1 := by rw [Hxe.out, hx]; rfl
     have hx2 : leftT x = q.2 := by rw [Hxe.out, hx]; rfl
     have hzc := hs.size;refine hK _ _ (fun _ => ⟨u2, by rw [hx1], by rw [hx1]; exact hex2.mono fun k hk (h : wc.heap.size ≤ k) => ⟨by omega, by omega⟩, hxx⟩) (hS2.mono fun k hk h => h.1) ⟨?_, ?_, ?_⟩
     ·show PS wd g t (leftT x) o;rw [hx2];exact hp2
     ·intro _;exact hrd.keep hS2 (by omega)
     ·intro h;have h : f 7 = true := h;rw [h9] at h;cases h
   ·have p0 : (RuS g (w.heap.size) (w.heap.size + 1) hgB x : SPT (TR g (w.heap.size))).p (ac.eval (.tmp 24)) wc := hw 4 rfl;obtain ⟨u0, e0⟩ : ∃ u, ac.eval (.tmp 24) = u := ⟨_, rfl⟩;have v0 : U 4 = u0 := by rw [← hU]; exact e0
    rw [e0] at p0;obtain ⟨u2, rfl, hex2, hxx⟩ := p0;obtain ⟨A2, c2, rfl, -, -⟩ := hex2.toL.form;have Hxx := LH hxx;clear hxx;have Hex2 := LH hex2;clear hex2;clear hd hz hf hw;simp only [if_true, RL, e0];go_simp;have hzc := hs.size;have hex2 := Hex2.out;have hxx := Hxx.out;exact hK _ _ (fun _ => ⟨DpR.one hex2 ⟨by omega, by omega⟩, hxx⟩) (SR.alloc _) (RegS.keep hst (SR.alloc _))
   ·have e0 := EV 20 (tokV4 tk) (hw 0 rfl);have p1 : (SlS g (w.heap.size) (w.heap.size + 1) hgB [valT x] (x = .ok (valT x, leftT x)) : SPT (TR g (w.heap.size))).p (ac.eval (.tmp 25)) wc := hw 5 rfl;obtain ⟨u1, e1⟩ : ∃ u, ac.eval (.tmp 25) = u := ⟨_, rfl⟩;have v1 : U 5 = u1 := by rw [← hU]; exact e1
    rw [e1] at p1;have Hdf := LH (show ac.defers = [] from hd);have HSB := LH p1;clear p1;clear hd hz hf hw;simp only [if_true, RL, e0, e1];go_simp;obtain ⟨hsb, hxx⟩ := HSB.out;refine (op_any tk wNEG _ [valT x] _ wc hsb (by simp) (HD16.out hxx)).mono ?_;intro e wd ⟨hA1, hA2, hS2⟩;have hzc := hs.size;by_cases hdp : 16 < deepOf [valT x] + 1
    ·obtain rfl := hA1 hdp
     have hq : DoP g t o X (DpG w.heap.size) w (.panicked [{ v := failV tk.1 3, recovered := false }]) wd := by
      rw [HXo.out hxx hdp];exact DoP.err ⟨rfl, hS2.mono fun _ _ _ => tv⟩ (HS3.out.trans' hs fun q hq h => ⟨h, by omega⟩) fun _ h => h
     exact ⟨Hdf.out, hq⟩
    ·obtain ⟨u3, rfl, hex3⟩ := hA2 hdp;exact hK _ _ (fun _ => ⟨u3, rfl, hex3.mono fun k hk h => h.elim id fun h => ⟨by omega, by omega⟩, hxx, by omega⟩) (hS2.mono fun _ _ _ => tv) (RegS.keep hst hS2)
   ·have e0 := EP 2 w.heap.size 0 (hf 2 rfl);have p1 : (OpS g (w.heap.size) (w.heap.size + 1) hgB (opD wNEG [valT x]) (x = .ok (valT x, leftT x) ∧ deepOf [valT x] ≤ 15) : SPT (TR g (w.heap.size))).p (ac.eval (.tmp 26)) wc := hw 6 rfl;obtain ⟨u1, e1⟩ : ∃ u, ac.eval (.tmp 26) = u := ⟨_, rfl⟩;have v1 : U 6 = u1 := by rw [← hU]; exact e1
    rw [e1] at p1;obtain ⟨u3, rfl, hex3, hok⟩ := p1;have Hok := LH hok;clear hok;obtain ⟨A3, c3, rfl, -, -⟩ := hex3.toL.form;generalize (opD wNEG [valT x]).e.args.length = n3 at *;have hr_ := hst.2.1 hni;obtain ⟨m0, m1, m2, m3, m4, m5, m6⟩ := CN7 hr_;obtain ⟨n0_, n1_, n2_, n3_, n4_, n5_, n6_⟩ := FN7 hr_;have zr := hr_.lt;clear hd hz hf hw;simp only [if_true, RL, e0, e1];go_simp;have hss : Same (fun q => q ≠ w.heap.size) wc (setsW wc (w.heap.size) 0 (dpCs (.slice A3 n3 c3) (opD wNEG [valT x]))) := Same.sets (fun h => h rfl) _ 0 SR;have hA := hst.1.keepB hss (by omega) (by omega) (by omega);have hB := hr_.sets (dpCs (.slice A3 n3 c3) (opD wNEG [valT x])) 0;have hC := hex3.keep (hss.mono (S' := fun q => w.heap.size + 1 ≤ q ∧ q ≠ w.heap.size) fun k _ h => h.2);have hD := hss.mono (S' := TR g (w.heap.size)) fun k _ h => h.2
    refine hK undef _ (fun h => (by cases h)) ?_ ⟨?_, ?_, ?_⟩
    ·exact hD
    ·exact hA
    ·exact fun h => (by cases h)
    ·exact fun _ => ⟨Hok.out, .slice A3 n3 c3, hB, hC⟩
  ·intro vs wR f hvl hvp hsR hst hfR;obtain ⟨z0, z1, z2, z3, z4, z5, z6, z7, rfl⟩ := LN8 hvl
   ·obtain rfl : z0 = (tokV4 tk) := hvp 0 (by simp);obtain rfl : z1 = (pV g) := hvp 1 (by simp);obtain rfl : z2 = (pV g) := hvp 2 (by simp);obtain rfl : z3 = (.func (.func 152) #[pV g] #[]) := hvp 3 (by simp);have hru : (RuS g (w.heap.size) (w.heap.size + 1) hgB x : SPT (TR g (w.heap.size))).p z4 wR := hvp 4 (by simp);have hsb : (SlS g (w.heap.size) (w.heap.size + 1) hgB [valT x] (x = .ok (valT x, leftT x)) : SPT (TR g (w.heap.size))).p z5 wR := hvp 5 (by simp);have hpo : (OpS g (w.heap.size) (w.heap.size + 1) hgB (opD wNEG [valT x]) (x = .ok (valT x, leftT x) ∧ deepOf [valT x] ≤ 15) : SPT (TR g (w.heap.size))).p z6 wR := hvp 6 (by simp);clear hvl hvp;simp only [putAll, Act.put, LP];clear hru hsb hpo;have hst := hst;rw [hfR 4, hfR 7] at hst;obtain ⟨hpR, -, hnew⟩ := hst;obtain ⟨⟨hxx, hdo⟩, u3, hrN, hexN⟩ := hnew rfl;have hpR : PS wR g t (leftT x) o := hpR;have HSe := LH (HSw.out.trans' hsR fun q hq h => ⟨h, by omega⟩);have HPe := LH hpR;have HRe := LH hrN;have HEe := LH (hexN.mono (S' := fun q => w.heap.size ≤ q) fun q _ h => by have := h.1; omega);have HXe := LH (HXk.out hxx hdo);clear hpR hnew hxx hdo hrN hexN;go_wp2;refine bodyPost_ret (unary_results (show Row _ _ _ (dpCs u3 _) from HRe.out) rfl) rfl ?_;rw [HXe.out];exact ⟨_, rfl, ⟨_, rfl, HEe.out⟩, HPe.out, HSe.out⟩
set_option maxRecDepth 100000 in
set_option maxHeartbeats 2000000 in
/-- Too many are open. -/
theorem rule_full (g t : Nat) (fv : Value) : RuleC g t 200 fv (wrongT 3) := by
 intro l w h;have hg := h.lt;obtain ⟨off, c, hrow, -⟩ := h.open_;have b1 := hrow.cell 1;simp only [LG] at b1;have f1 := hrow.frozen 1;rw [show ((200 : Nat) : Int) = 200 from rfl] at b1;have hp0 := (h.opened (o' := 201) (by omega) (v := .int .i64 201) rfl).keep ((ST).alloc (.cells zdp.toArray 155));have hS0 : Same (fun q => q ≠ g) w ((w.setCell ⟨g, 1, none⟩ (.int .i64 201)).alloc (.cells zdp.toArray 155)) := ((Same.refl _ w).setCell (fun _ h => h rfl) _).alloc _;clear h hrow;go_enter Tryz.func128, Tryz.ntmps128;go_wp2_with (go_at_call 39; refine stopAt ?_);unfold Hid;simp only [zdp] at hp0 hS0;revert hp0 hS0;generalize (w.setCell _ _).alloc _ = w0;intro hp0 hS0;refine (wrong_any g t l 201 3 w0 hp0).mono ?_;rintro e w1 ⟨rfl, hS1⟩;have hq : DoP g t 200 (wrongT 3 l) (DpG w.heap.size) w (.panicked [{ v := failV (hdT l).1 3, recovered := false }]) w1 := DoP.err ⟨rfl, hS1⟩ hS0 fun _ h => h
 exact ⟨rfl, hq⟩
theorem call_in {P : Program} {f : FuncId} {fn : Func} (hf : P.funcs[f]? = some fn) (hname : (fn.name == "runtime.NumGoroutine") = false) (hb : fn.body.isNone = false) (args : Array Value) (w : World) : (callFunc f args).run P w = .ok (.enter f args) w := by
 have h1 : fn.name ≠ "runtime.NumGoroutine" := by simpa using hname
 simp only [Option.isNone_eq_false_iff, Option.isSome_iff_exists] at hb;obtain ⟨c, hb⟩ := hb;simp [callFunc, hf, h1, hb]
/-- The function of a rule. -/
def ruleF : Rl → FuncId
 | .or => 129
 | .and => 135
 | .not => 143
 | .cmp => 149
 | .sum => 150
 | .prod => 151
 | .unary => 152
theorem ruleF_enter (r : Rl) (args : Array Value) (w : World) : (callFunc (ruleF r) args).run Tryz.prog w = .ok (.enter (ruleF r) args) w := by
 cases r
 ·exact call_in Tryz.func129 (by kernel_rfl) (by kernel_rfl) args w
 ·exact call_in Tryz.func135 (by kernel_rfl) (by kernel_rfl) args w
 ·exact call_in Tryz.func143 (by kernel_rfl) (by kernel_rfl) args w
 ·exact call_in Tryz.func149 (by kernel_rfl) (by kernel_rfl) args w
 ·exact call_in Tryz.func150 (by kernel_rfl) (by kernel_rfl) args w
 ·exact call_in Tryz.func151 (by kernel_rfl) (by kernel_rfl) args w
 ·exact call_in Tryz.func152 (by kernel_rfl) (by kernel_rfl) args w
theorem rules_any (g t : Nat) : ∀ (n o : Nat), o + n = 200 → ∀ r, RuleC g t o (.func (.func (ruleF r)) #[pV g] #[]) (ruleT n r)
 | 0, o, h, r => by
  obtain rfl : o = 200 := by omega
  exact rule_full g t _
 | n + 1, o, h, r => by
  have ih := rules_any g t n (o + 1) (by omega);have h16 := rule_shal n;have hfit := rule_fit n;refine rule_any g t o (by omega) _ (ruleF_enter r) (ruleT (n + 1) r) fun l w hp => ?_
  show Calls _ _ _ _ (DoP g t (o + 1) (stepT (ruleT n) r l) _ _);cases r with
  | or => exact or_any g t (o + 1) _ (ih .and) (h16 .and) (hfit .and) l w hp
  | and => exact and_any g t (o + 1) _ (ih .not) (h16 .not) (hfit .not) l w hp
  | not => exact not_any g t (o + 1) _ _ (ih .not) (ih .cmp) (h16 .not) l w hp
  | cmp => exact cmp_any g t (o + 1) _ (ih .sum) (h16 .sum) l w hp
  | sum => exact sum_any g t (o + 1) _ (ih .prod) (h16 .prod) (hfit .prod) l w hp
  | prod => exact prod_any g t (o + 1) _ (ih .unary) (h16 .unary) (hfit .unary) l w hp
  | unary => exact unary_any g t (o + 1) _ (ih .unary) (ih .or) (h16 .unary) l w hp
/-- What a thing's own part (behind its cells) keeps. -/
structure OkK {α β : Type} (ok : World → (Nat → Prop) → β → α → Prop) : Prop where
 keep : ∀ {w w' : World} {S : Nat → Prop} {u : β} {x : α}, ok w S u x → Same S w w' → ok w' S u x
 mono : ∀ {w : World} {S S' : Nat → Prop} {u : β} {x : α}, ok w S u x → (∀ k, k < w.heap.size → S k → S' k) → ok w S' u x
/-- A slice of such things. -/
def LsR {α β : Type} (cs : β × α → List Value) (n : Nat) (ok : World → (Nat → Prop) → β → α → Prop) (w : World) (S : Nat → Prop) (v : Value) (l : List α) : Prop :=
 ∃ us : List β, us.length = l.length ∧ RowR cs n w S v (us.zip l) ∧ ∀ (i : Nat) (u : β) (x : α), us[i]? = some u → l[i]? = some x → ok w S u x
/-- Such a slice that the call owns. -/
def OwnL {α β : Type} (cs : β × α → List Value) (n : Nat) (e : TypeId) (ok : World → (Nat → Prop) → β → α → Prop) (w : World) (B : Nat) (v : Value) (l : List α) : Prop :=
 ∃ us : List β, us.length = l.length ∧ OwnR cs n e w B v (us.zip l) ∧ ∀ (i : Nat) (u : β) (x : α), us[i]? = some u → l[i]? = some x → ok w (fun q => B ≤ q ∧ some q ≠ v.ownBlock) u x
section
variable {α β : Type} {cs : β × α → List Value} {n : Nat} {e : TypeId} {ok : World → (Nat → Prop) → β → α → Prop} {w w' : World} {S S' : Nat → Prop} {B : Nat} {v : Value} {l : List α}
theorem LsR.keep (hk : OkK ok) (h : LsR cs n ok w S v l) (hs : Same S w w') : LsR cs n ok w' S v l := by
 obtain ⟨us, h1, h2, h3⟩ := h;exact ⟨us, h1, h2.keep hs, fun i u x a b => hk.keep (h3 i u x a b) hs⟩
theorem LsR.keepAll (hk : OkK ok) (h : LsR cs n ok w S v l) (hs : Same (fun _ => True) w w') : LsR cs n ok w' S v l := h.keep hk (hs.mono fun _ _ _ => tv)
theorem LsR.mono (hk : OkK ok) (hn : 0 < n) (h : LsR cs n ok w S v l) (hS : ∀ k, k < w.heap.size → S k → S' k) : LsR cs n ok w S' v l := by
 obtain ⟨us, h1, h2, h3⟩ := h;exact ⟨us, h1, h2.mono hn hS, fun i u x a b => hk.mono (h3 i u x a b) hS⟩
theorem LsR.nil (w : World) (S : Nat → Prop) : LsR cs n ok w S (.slice none 0 0) [] := ⟨[], rfl, RowR.nil_ w S none 0 (by simp [maxLen]), fun i u x h => by simp at h⟩
theorem LsR.form (h : LsR cs n ok w S v l) : ∃ A c, v = .slice A l.length c ∧ l.length ≤ c ∧ c ≤ maxLen := by
 obtain ⟨us, h1, ⟨A, c, h2, h3, h4, _⟩, _⟩ := h;have : (us.zip l).length = l.length := by simp [h1]
 rw [this] at h2 h3;exact ⟨A, c, h2, h3, h4⟩
theorem OwnL.keep (hk : OkK ok) (h : OwnL cs n e ok w B v l) (hs : Same S w w') (hS : ∀ k, B ≤ k → k < w.heap.size → S k) : OwnL cs n e ok w' B v l := by
 obtain ⟨us, h1, h2, h3⟩ := h;exact ⟨us, h1, OwnR.keep h2 hs hS, fun i u x a b => hk.keep (h3 i u x a b) (hs.mono fun k hk h => hS k h.1 hk)⟩
theorem OwnL.keepAll (hk : OkK ok) (h : OwnL cs n e ok w B v l) (hs : Same (fun _ => True) w w') : OwnL cs n e ok w' B v l := h.keep hk hs fun _ _ _ => tv
theorem OwnL.nil (w : World) (B : Nat) : OwnL cs n e ok w B (.slice none 0 0) [] := ⟨[], rfl, OwnR.nil w B, fun i u x h => by simp at h⟩
theorem OwnL.form (h : OwnL cs n e ok w B v l) : ∃ A c, v = .slice A l.length c ∧ l.length ≤ c ∧ c ≤ maxLen := by
 obtain ⟨us, h1, h2, _⟩ := h;obtain ⟨A, c, h3, h4, h5⟩ := OwnR.form h2;have : (us.zip l).length = l.length := by simp [h1]
 rw [this] at h3 h4;exact ⟨A, c, h3, h4, h5⟩
theorem OwnL.ls (hk : OkK ok) (hf : ∀ x, (cs x).length = n) (h : OwnL cs n e ok w B v l) : LsR cs n ok w (fun q => B ≤ q) v l := by
 obtain ⟨us, h1, h2, h3⟩ := h;exact ⟨us, h1, (OwnR.wr h2).row hf, fun i u x a b => hk.mono (h3 i u x a b) fun k _ h => h.1⟩
theorem OwnL.one (hf : ∀ x, (cs x).length = n) {u : β} {x : α} (hk : OkK ok) (hx : ok w (fun q => B ≤ q) u x) (hB : B ≤ w.heap.size) : OwnL cs n e ok (w.alloc (.cells (cs (u, x)).toArray e)) B (.slice (some ⟨w.heap.size, 0, none⟩) 1 1) [x] := by
 have hs := (Same.refl (fun _ => True) w).alloc (.cells (cs (u, x)).toArray e);refine ⟨[u], rfl, ⟨by simp [hf], .inr ⟨w.heap.size, 1, (cs (u, x)).toArray, rfl, hB, Row.new w e (cs (u, x)), Nat.le_refl _, by simp [maxLen], by simp [hf], ?_⟩⟩, fun i u' x' h1 h2 => ?_⟩
 ·simp only [List.zip_cons_cons, List.zip_nil_right, List.flatMap_cons, List.flatMap_nil, List.append_nil];exact List.take_of_length_le (by simp [hf])
 ·cases i with
  | zero =>
   simp at h1 h2;subst h1 h2;exact hk.keep (hk.mono hx fun k hk h => ⟨h, fun e => by injection e with e; have e : k = w.heap.size := e; omega⟩) (hs.mono fun _ _ _ => tv)
  | succ i => simp at h1
/-- One more thing behind a slice that the call owns. -/
theorem wpList_appZ {P : Program} {t : TypeId} {bytes : Nat} {z : Value} (T : SlT P t e n bytes z) (hf : ∀ x, (cs x).length = n) (hk : OkK ok) {ops : Array Oper} {rest : List Oper} {o : Oper} {a : Act} {Q : Exit → Act → World → Prop} (hgd : o.guard = none) (s x : Operand)
  (ho : o.op = .call { callee := .builtin .append, args := #[s, x], argTypes := #[t, t] }) (u : β) (y : α) (h1 : ∀ c ∈ cs (u, y), c.oneCell' = true)
  (hs : a.eval s = v) {g : Nat} (hx : a.eval x = .slice (some ⟨g, 0, none⟩) 1 1) (hg : g = w.heap.size) (hown : OwnL cs n e ok w B v l) (hy : ok w (fun q => B ≤ q ∧ some q ≠ v.ownBlock) u y) (hB : B ≤ w.heap.size) (hlen : l.length + 1 ≤ maxLen) (hbytes : (l.length + 1) * bytes ≤ 140737488355328)
  (hK : ∀ v' w', OwnL cs n e ok w' B v' (l ++ [y]) → Same (fun k => some k ≠ v.ownBlock) w w' → (v'.ownBlock = v.ownBlock ∨ v'.ownBlock = some (w.heap.size + 1)) → wpList P ops Q rest (a.put o.dst v') w') : wpList P ops Q (o :: rest) a (w.alloc (.cells (cs (u, y)).toArray e)) := by
 subst hg;obtain ⟨us, k1, k2, k3⟩ := hown;have hzl : (us.zip l).length = l.length := by simp [k1]
 have hs1 : Same (fun _ => True) w (w.alloc (.cells (cs (u, y)).toArray e)) := SR.alloc _;have hrow := Row.new w e (cs (u, y));have hsl := hrow.sl (size := n) (off := 0) (n := 1) (by rw [hf]; omega);rw [List.drop_zero, List.take_of_length_le (by rw [hf]; omega)] at hsl;refine wpList_app T _ hgd s x ho B v (us.zip l).length ((us.zip l).flatMap cs) hs (OwnR.keepAll k2 hs1) _ _ 1 1 (cs (u, y)) hx hsl h1 (by omega) (by rw [hzl]; exact hbytes) (by simp; omega) ?_;intro v' w' h2 h3 h4;rw [World.size_alloc] at h4;have hs3 : Same (fun k => some k ≠ v.ownBlock) w w' := (hs1.mono fun _ _ _ => tv).trans h3
 have hne : ∀ k, k < w.heap.size → some k ≠ v.ownBlock → some k ≠ v'.ownBlock := by
  intro k hk h e';rcases h4 with h4 | h4
  ·exact h (e'.trans h4)
  ·rw [h4] at e'; injection e' with e'; omega
 refine hK v' w' ⟨us ++ [u], by simp [k1], ?_, fun i u' x' a b => ?_⟩ hs3 h4
 ·unfold OwnR;rw [List.zip_append k1, List.length_append, List.flatMap_append];simpa using h2
 ·have step : ∀ u'' x'', ok w (fun q => B ≤ q ∧ some q ≠ v.ownBlock) u'' x'' → ok w' (fun q => B ≤ q ∧ some q ≠ v'.ownBlock) u'' x'' := fun u'' x'' h =>
   hk.mono (hk.keep (hk.mono h (S' := fun q => (B ≤ q ∧ some q ≠ v.ownBlock) ∧ some q ≠ v'.ownBlock) fun k hk h => ⟨h, hne k hk h.2⟩) (hs3.mono fun k _ h => h.1.2)) fun k _ h => ⟨h.1.1, h.2⟩
  by_cases hi : i < l.length
  ·rw [List.getElem?_append_left (by omega)] at a b;exact step _ _ (k3 i u' x' a b)
  ·rw [List.getElem?_append_right (by omega)] at a b;rw [k1] at a;cases hj : i - l.length with
   | zero => rw [hj] at a b; simp at a b; subst a b; exact step _ _ hy
   | succ j => rw [hj] at a; simp at a
end
def itCs (p : Value × Itm) : List Value := .int .i64 p.2.kind :: exCs p.1 p.2.e
def itOk (w : World) (S : Nat → Prop) (u : Value) (x : Itm) : Prop := ExR w S u x.e
def rwCs (p : Value × List Ex) : List Value := [p.1]
def rwOk (w : World) (S : Nat → Prop) (u : Value) (x : List Ex) : Prop := ExL w S u x
def asCs (p : Value × Asn) : List Value := .string (str p.2.name) :: exCs p.1 p.2.e
def asOk (w : World) (S : Nat → Prop) (u : Value) (x : Asn) : Prop := ExR w S u x.e
def exCsP (p : Value × Ex) : List Value := exCs p.1 p.2
theorem exK : OkK ExR := ⟨fun h hs => h.keep hs, fun h hS => h.mono hS⟩
theorem itK : OkK itOk := ⟨fun h hs => ExR.keep h hs, fun h hS => ExR.mono h hS⟩
theorem rwK : OkK rwOk := ⟨fun h hs => ExL.keep h hs, fun h hS => ExL.mono h hS⟩
theorem asK : OkK asOk := ⟨fun h hs => ExR.keep h hs, fun h hS => ExR.mono h hS⟩
theorem ls_exL {w : World} {S : Nat → Prop} {v : Value} {l : List Ex} : LsR exCsP 6 ExR w S v l ↔ ExL w S v l := by
 constructor
 ·rintro ⟨us, h1, ⟨A, c, h2, h3, h4, h5⟩, h6⟩;have hz : (us.zip l).length = l.length := by simp [h1]
  rw [hz] at h2 h3 h5;exact ⟨us, A, c, h2, h1, h3, h4, h5, h6⟩
 ·rintro ⟨us, A, c, h2, h1, h3, h4, h5, h6⟩;have hz : (us.zip l).length = l.length := by simp [h1]
  exact ⟨us, h1, ⟨A, c, by rw [hz]; exact h2, by rw [hz]; exact h3, h4, by rw [hz]; exact h5⟩, h6⟩
/-- The slices that a statement holds. -/
structure SU where
 items : Value
 rows : Value
 sets : Value
 cond : Value
def SU.zero : SU := ⟨.slice none 0 0, .slice none 0 0, .slice none 0 0, .slice none 0 0⟩
def stCs (u : SU) (s : Stm) : List Value := [.int .i64 s.kind, .string (str s.table), u.items, u.rows, u.sets, .bool s.filt, .int .i64 s.cond.kind, .string (str s.cond.s), .int .i64 s.cond.v.kind, .int .i64 s.cond.v.n, .string (str s.cond.v.s), u.cond, .string (str s.order), .bool s.down, .int .i64 s.limit]
abbrev stV (u : SU) (s : Stm) : Value := .agg #[.int .i64 s.kind, .string (str s.table), u.items, u.rows, u.sets, .bool s.filt, .int .i64 s.cond.kind, .string (str s.cond.s), .int .i64 s.cond.v.kind, .int .i64 s.cond.v.n, .string (str s.cond.v.s), u.cond, .string (str s.order), .bool s.down, .int .i64 s.limit]
def stCsP (p : SU × Stm) : List Value := stCs p.1 p.2
/-- What a statement's slices hold. -/
def StR (w : World) (S : Nat → Prop) (u : SU) (s : Stm) : Prop := LsR itCs 7 itOk w S u.items s.items ∧ LsR rwCs 1 rwOk w S u.rows s.rows ∧ LsR asCs 7 asOk w S u.sets s.sets ∧ ExR w S u.cond s.cond
theorem stK : OkK StR := ⟨fun h hs => ⟨h.1.keep itK hs, h.2.1.keep rwK hs, h.2.2.1.keep asK hs, h.2.2.2.keep hs⟩, fun h hS => ⟨h.1.mono itK (by omega) hS, h.2.1.mono rwK (by omega) hS, h.2.2.1.mono asK (by omega) hS, h.2.2.2.mono hS⟩⟩
theorem TIt : SlT Tryz.prog 40 63 7 88 (.agg #[.int .i64 0, .int .i64 0, .string ⟨#[]⟩, .int .i64 0, .int .i64 0, .string ⟨#[]⟩, .slice none 0 0]) := ⟨by kernel_rfl, by kernel_rfl, rfl, by omega⟩
theorem TRw : SlT Tryz.prog 41 32 1 24 (.slice none 0 0) := ⟨by kernel_rfl, by kernel_rfl, rfl, by omega⟩
theorem TAs : SlT Tryz.prog 42 65 7 96 (.agg #[.string ⟨#[]⟩, .int .i64 0, .string ⟨#[]⟩, .int .i64 0, .int .i64 0, .string ⟨#[]⟩, .slice none 0 0]) := ⟨by kernel_rfl, by kernel_rfl, rfl, by omega⟩
theorem TSt : SlT Tryz.prog 23 44 15 216 (.agg #[.int .i64 0, .string ⟨#[]⟩, .slice none 0 0, .slice none 0 0, .slice none 0 0, .bool false, .int .i64 0, .string ⟨#[]⟩, .int .i64 0, .int .i64 0, .string ⟨#[]⟩, .slice none 0 0, .string ⟨#[]⟩, .bool false, .int .i64 0]) := ⟨by kernel_rfl, by kernel_rfl, rfl, by omega⟩
/-- What a part of the parser that writes only there (S: what stays) does. -/
def DoQ {α : Type} (S : Nat → Prop) (g t o : Nat) (x : PR α) (good : α → World → Value → Prop) (w : World) (e : Ending) (w' : World) : Prop := match x with
 | .error p => e = .panicked [{ v := failV p.1 p.2, recovered := false }] ∧ Same S w w'
 | .ok (a, l') => ∃ v, e = .returned v ∧ good a w' v ∧ PS w' g t l' o ∧ Same S w w'
theorem DoQ.of {α : Type} {g t o : Nat} {x : PR α} {good : α → World → Value → Prop} {w w' : World} {e : Ending} (h : DoP g t o x good w e w') : DoQ (fun q => q ≠ g) g t o x good w e w' := h
theorem must_at (g t : Nat) (l : List PT) (o : Nat) (ss : List (List UInt8)) (w : World) (h : PS w g t l o) (hn : ss.length ≤ maxLen := by simp [maxLen]) :
  Calls Tryz.prog 40 #[pV g, .slice (some ⟨w.heap.size, 0, none⟩) ss.length ss.length] (w.alloc (.cells (strCs ss).toArray 9)) (DoP g t o (mustT ss l) (fun _ _ v => v = .tuple #[]) w) := by
 have hS := (Same.refl (fun _ => True) w).alloc (.cells (strCs ss).toArray 9);refine (must_any g t l o ss _ _ (h.keep hS) (StrR.new w g h.lt ss hn)).mono ?_;intro e w' hd;have hS := hS.mono (S' := fun q => q ≠ g) fun _ _ _ => tv
 cases hx : mustT ss l with
 | error p => rw [hx] at hd; exact ⟨hd.1, hS.trans hd.2⟩
 | ok q => obtain ⟨a, l'⟩ := q; rw [hx] at hd; obtain ⟨v, h1, h2, h3, h4⟩ := hd; exact ⟨v, h1, h2, h3, hS.trans h4⟩
theorem begins_at (g t : Nat) (l : List PT) (o : Nat) (ss : List (List UInt8)) (w : World) (h : PS w g t l o) (hn : ss.length ≤ maxLen := by simp [maxLen]) :
  Calls Tryz.prog 38 #[pV g, .slice (some ⟨w.heap.size, 0, none⟩) ss.length ss.length] (w.alloc (.cells (strCs ss).toArray 9)) fun e w' => e = .returned (.bool (beginsT ss l)) ∧ Same (fun _ => True) w w' := by
 have hS := (Same.refl (fun _ => True) w).alloc (.cells (strCs ss).toArray 9);refine (begins_any g t l o ss _ _ _ (h.keep hS) (StrR.new w g h.lt ss hn)).mono ?_;rintro e w' ⟨h1, h2⟩;exact ⟨h1, hS.trans h2⟩
def zex : List Value := [.int .i64 0, .string ⟨#[]⟩, .int .i64 0, .int .i64 0, .string ⟨#[]⟩, .slice none 0 0]
/-- A result that is written whole. -/
theorem fin_cs {wa : World} {g t o k : Nat} {e : TypeId} {l' : List PT} {cs cs0 : List Value} (h : PS wa g t l' o) (hg : g < k) (ht : t < k) (hm : 1 < k) (hr : Row wa k e cs0) :
  Row (setsW wa k 0 cs) k e (setsL cs0 0 cs) ∧ PS (setsW wa k 0 cs) g t l' o ∧ Same (fun q => q ≠ k) wa (setsW wa k 0 cs) := by
 have hss : Same (fun q => q ≠ k) wa (setsW wa k 0 cs) := Same.sets (fun h => h rfl) _ 0 SR;exact ⟨hr.sets cs 0, h.keepB hss (by omega) (by omega) (by omega), hss⟩
@[go_sem] theorem deep_e (w : World) (u : Value) (d : Dp) : (Instr.field 155 (dpV u d) 0).run Tryz.prog w = .ok (exV u d.e) w := by
 simp [Instr.field, run_underlying Tryz.underlying155, part, isAgg, run_underlying Tryz.underlying34, asAgg]
def ExG (B : Nat) (e : Ex) (w : World) (v : Value) : Prop := ∃ u, v = exV u e ∧ ExR w (fun q => B ≤ q) u e
theorem expr_results {W : World} {k : Nat} {u : Value} {e : Ex} (R : Row W k 34 (exCs u e)) {tmps : Array Value} (h1 : tmps.getD 2 undef = .pointer (some ⟨k, 0, none⟩)) :
  (results Tryz.f113 tmps).run Tryz.prog W = .ok (exV u e) W := by
 have d0 : W.cell? ⟨k, 0, none⟩ = some (.int .i64 e.kind) := R.cell 0;have d1 : W.cell? ⟨k, 1, none⟩ = some (.string (str e.s)) := R.cell 1;have d2 : W.cell? ⟨k, 2, none⟩ = some (.int .i64 e.v.kind) := R.cell 2;have d3 : W.cell? ⟨k, 3, none⟩ = some (.int .i64 e.v.n) := R.cell 3;have d4 : W.cell? ⟨k, 4, none⟩ = some (.string (str e.v.s)) := R.cell 4;have d5 : W.cell? ⟨k, 5, none⟩ = some (u) := R.cell 5;simp at h1;simp [results, Tryz.results113, h1, go_sem, d0, d1, d2, d3, d4, d5]
set_option maxRecDepth 100000 in
set_option maxHeartbeats 2000000 in
theorem expr_any (g t : Nat) (l : List PT) (w : World) (h : PS w g t l 0) : Calls Tryz.prog 113 #[pV g] w (DoP g t 0 (exprT l) (ExG w.heap.size) w) := by
 have HL3 := LH h.lt3;have hR : RuleC g t 0 (.func (.func 129) #[pV g] #[]) (ruleT 200 .or) := rules_any g t 200 0 rfl .or;have HR := LH hR;obtain ⟨X, hX⟩ : ∃ X, X = exprT l := ⟨_, rfl⟩;rw [← hX];unfold exprT at hX;have HX := LH hX;have hS0 := (Same.refl (fun _ => True) w).alloc (.cells zex.toArray 34);have r0 := Row.new w 34 zex;have hz0 : (w.alloc (.cells zex.toArray 34)).heap.size = w.heap.size + 1 := by simp
 have hp0 := h.keep hS0;clear h hR hX;have hmf : ∀ (fn : Fn) (first cap : Array Value) (w : World), (Instr.makeFunc fn first cap).run Tryz.prog w = .ok (.func fn first cap) w := fun _ _ _ _ => rfl
 go_enter Tryz.func113, Tryz.ntmps113;go_wp2_with (go_at_call 128; refine stopAt ?_);unfold Hid;simp only [zex] at hS0 r0 hz0 hp0;revert hS0 r0 hz0 hp0;generalize w.alloc _ = w0;intro hS0 r0 hz0 hp0;refine (HR.out l w0 hp0).mono ?_;intro e w1 h1;cases hx : ruleT 200 .or l with
 | error p =>
  rw [hx] at h1;obtain ⟨rfl, hS1⟩ := h1
  have hq : DoP g t 0 X (ExG w.heap.size) w (.panicked [{ v := failV p.1 p.2, recovered := false }]) w1 := by
   rw [HX.out, hx];exact DoP.err ⟨rfl, hS1⟩ hS0
  exact ⟨rfl, hq⟩
 | ok q =>
  obtain ⟨d, l2⟩ := q;rw [hx] at h1;obtain ⟨v, rfl, ⟨u, rfl, hex⟩, hp1, hS1⟩ := h1;obtain ⟨Au, cu, rfl, -, -⟩ := hex.toL.form;have hX := HX.out;rw [hx, thenT_ok] at hX;have HX := LH hX;generalize d.e.args.length = nu at *;have hz1 := hS1.size;obtain ⟨l3, l4, l5⟩ := HL3.out;have r1 := r0.keep hS1 (by omega);obtain ⟨hD, hB, hC⟩ := fin_cs (cs := exCs (.slice Au nu cu) d.e) hp1 l3 l4 l5 r1;have HD := LH hD;have HB := LH hB;have HE : Hid (ExR (setsW w1 w.heap.size 0 (exCs (.slice Au nu cu) d.e)) (fun q => w.heap.size ≤ q) (.slice Au nu cu) d.e) := LH ((hex.keep (hC.mono fun q _ (h : w0.heap.size ≤ q) => by omega)).mono fun q _ (h : w0.heap.size ≤ q) => by omega);have HS : Hid (Same (fun q => q ≠ g) w (setsW w1 w.heap.size 0 (exCs (.slice Au nu cu) d.e))) := LH (Same.sets' (Nat.le_refl _) _ 0 ((hS0.mono (S' := fun q => q ≠ g) fun _ _ _ => tv).trans hS1));have q0 := r1.cell 0;have q1 := r1.cell 1;have q2 := r1.cell 2;have q3 := r1.cell 3;have q4 := r1.cell 4;have q5 := r1.cell 5;simp only [LG] at q0 q1 q2 q3 q4 q5;have x0 := r1.frozen 0;have x1 := r1.frozen 1;have x2 := r1.frozen 2;have x3 := r1.frozen 3;have x4 := r1.frozen 4;have x5 := r1.frozen 5;have zr := r1.lt;clear hX hx hex hp1 hS0 hS1 r0 r1 hp0 hD hB hC;go_wp2;refine bodyPost_ret (expr_results (u := .slice Au nu cu) (e := d.e) (show Row _ _ _ (exCs (.slice Au nu cu) d.e) from HD.out) rfl) rfl ?_;rw [HX.out];exact ⟨_, rfl, ⟨_, rfl, HE.out⟩, HB.out, HS.out⟩
theorem no_k {a : Nat} {b : Nat} (h : ¬ a = b) : ((a : Int) == (b : Int)) = false := by simpa using fun h' : (a : Int) = b => h (by omega)
set_option maxRecDepth 100000 in
set_option maxHeartbeats 2000000 in
theorem leads_any (g t : Nat) (l : List PT) (o : Nat) (w : World) (h : PS w g t l o) : Calls Tryz.prog 112 #[pV g] w fun e w' => e = .returned (.bool (leadsT l)) ∧ Same (fun _ => True) w w' := by
 have H := LH h;obtain ⟨X, hX⟩ : ∃ X, X = leadsT l := ⟨_, rfl⟩;rw [← hX];unfold leadsT at hX;by_cases hk2 : (hdT l).2.kind = 2
 ·rw [hk2] at hX;have HX : Hid (X = true) := LH (by simpa using hX);clear h hX;obtain ⟨off, c, hrow, hc, hm, hpos, t0, t1, t2, t3⟩ := H.out.open_;unfold maxLen at hm;have b0 := hrow.cell 0;simp only [List.getElem?_cons_zero] at b0;have hl0 : (0 : Int) < (l.length : Int) := by omega
  clear hrow t1 t2 t3;rw [hk2] at t0;clear hk2;go_enter Tryz.func112, Tryz.ntmps112;go_wp2;go_ret;exact ⟨by rw [HX.out]; rfl, Same.refl _ _⟩
 ·by_cases hk3 : (hdT l).2.kind = 3
  ·rw [hk3] at hX;have HX : Hid (X = true) := LH (by simpa using hX);clear h hX;obtain ⟨off, c, hrow, hc, hm, hpos, t0, t1, t2, t3⟩ := H.out.open_;unfold maxLen at hm;have b0 := hrow.cell 0;simp only [List.getElem?_cons_zero] at b0;have hl0 : (0 : Int) < (l.length : Int) := by omega
   clear hrow t1 t2 t3;rw [hk3] at t0;clear hk3 hk2;go_enter Tryz.func112, Tryz.ntmps112;go_wp2;go_ret;exact ⟨by rw [HX.out]; rfl, Same.refl _ _⟩
  ·rw [decide_eq_false hk2, decide_eq_false hk3, Bool.false_or, Bool.false_or] at hX;have HX := LH hX;have e2 : (((hdT l).2.kind : Int) == 2) = false := no_k hk2;have e3 : (((hdT l).2.kind : Int) == 3) = false := no_k hk3;clear h hX hk2 hk3;obtain ⟨off, c, hrow, hc, hm, hpos, t0, t1, t2, t3⟩ := H.out.open_;unfold maxLen at hm;have b0 := hrow.cell 0;simp only [List.getElem?_cons_zero] at b0;have hl0 : (0 : Int) < (l.length : Int) := by omega
   clear hrow t1 t2 t3;generalize (hdT l).2.kind = kd at t0 e2 e3;go_enter Tryz.func112, Tryz.ntmps112;go_wp2_with (go_at_call 88; refine stopAt ?_);unfold Hid;refine (named_any g t l o w H.out).mono ?_;rintro e w1 ⟨rfl, hS1⟩;have HS1 := LH hS1;have hp1 := H.out.keep hS1;cases hn : namedT l
   ·have hX := HX.out;rw [hn, Bool.false_or] at hX;have HX := LH hX;clear hX hn hS1;go_wp2_with (go_at_call 38; refine stopAt ?_);unfold Hid;refine (begins_at g t l o [wNOT, [45], [40], wTRUE, wFALSE, wNULL] w1 hp1).mono ?_;rintro e w2 ⟨rfl, hS2⟩;rw [← HX.out];have HS2 := LH hS2;clear hS2 hp1;cases X
    ·go_wp2;go_ret;exact ⟨rfl, HS1.out.trans HS2.out⟩
    ·go_wp2;go_ret;exact ⟨rfl, HS1.out.trans HS2.out⟩
   ·have hX := HX.out;rw [hn, Bool.true_or] at hX;have HX := LH hX;clear hX hn hS1 hp1;go_wp2;go_ret;exact ⟨by rw [HX.out]; rfl, HS1.out⟩
theorem str_is {s x : List UInt8} (h : s = x) : (s == x) = true := by subst h; simp
theorem str_no {s x : List UInt8} (h : ¬ s = x) : (s == x) = false := by simpa using h
set_option maxHeartbeats 1000000 in
theorem args_0 (w : World) : Calls Tryz.prog 101 #[.string (str [78, 79, 84])] w fun e w' => e = .returned (.int .i64 1) ∧ w' = w := by
 go_enter Tryz.func101, Tryz.ntmps101;go_wp2;go_ret;exact ⟨rfl, rfl⟩
set_option maxHeartbeats 1000000 in
theorem args_1 (w : World) : Calls Tryz.prog 101 #[.string (str [73, 83, 78, 85, 76, 76])] w fun e w' => e = .returned (.int .i64 1) ∧ w' = w := by
 go_enter Tryz.func101, Tryz.ntmps101;go_wp2;go_ret;exact ⟨rfl, rfl⟩
set_option maxHeartbeats 1000000 in
theorem args_2 (w : World) : Calls Tryz.prog 101 #[.string (str [78, 79, 84, 78, 85, 76, 76])] w fun e w' => e = .returned (.int .i64 1) ∧ w' = w := by
 go_enter Tryz.func101, Tryz.ntmps101;go_wp2;go_ret;exact ⟨rfl, rfl⟩
set_option maxHeartbeats 1000000 in
theorem args_3 (w : World) : Calls Tryz.prog 101 #[.string (str [78, 69, 71])] w fun e w' => e = .returned (.int .i64 1) ∧ w' = w := by
 go_enter Tryz.func101, Tryz.ntmps101;go_wp2;go_ret;exact ⟨rfl, rfl⟩
set_option maxHeartbeats 1000000 in
theorem args_4 (w : World) : Calls Tryz.prog 101 #[.string (str [79, 82])] w fun e w' => e = .returned (.int .i64 2) ∧ w' = w := by
 go_enter Tryz.func101, Tryz.ntmps101;go_wp2;go_ret;exact ⟨rfl, rfl⟩
set_option maxHeartbeats 1000000 in
theorem args_5 (w : World) : Calls Tryz.prog 101 #[.string (str [65, 78, 68])] w fun e w' => e = .returned (.int .i64 2) ∧ w' = w := by
 go_enter Tryz.func101, Tryz.ntmps101;go_wp2;go_ret;exact ⟨rfl, rfl⟩
set_option maxHeartbeats 1000000 in
theorem args_6 (w : World) : Calls Tryz.prog 101 #[.string (str [61])] w fun e w' => e = .returned (.int .i64 2) ∧ w' = w := by
 go_enter Tryz.func101, Tryz.ntmps101;go_wp2;go_ret;exact ⟨rfl, rfl⟩
set_option maxHeartbeats 1000000 in
theorem args_7 (w : World) : Calls Tryz.prog 101 #[.string (str [60, 62])] w fun e w' => e = .returned (.int .i64 2) ∧ w' = w := by
 go_enter Tryz.func101, Tryz.ntmps101;go_wp2;go_ret;exact ⟨rfl, rfl⟩
set_option maxHeartbeats 1000000 in
theorem args_8 (w : World) : Calls Tryz.prog 101 #[.string (str [60])] w fun e w' => e = .returned (.int .i64 2) ∧ w' = w := by
 go_enter Tryz.func101, Tryz.ntmps101;go_wp2;go_ret;exact ⟨rfl, rfl⟩
set_option maxHeartbeats 1000000 in
theorem args_9 (w : World) : Calls Tryz.prog 101 #[.string (str [60, 61])] w fun e w' => e = .returned (.int .i64 2) ∧ w' = w := by
 go_enter Tryz.func101, Tryz.ntmps101;go_wp2;go_ret;exact ⟨rfl, rfl⟩
set_option maxHeartbeats 1000000 in
theorem args_10 (w : World) : Calls Tryz.prog 101 #[.string (str [62])] w fun e w' => e = .returned (.int .i64 2) ∧ w' = w := by
 go_enter Tryz.func101, Tryz.ntmps101;go_wp2;go_ret;exact ⟨rfl, rfl⟩
set_option maxHeartbeats 1000000 in
theorem args_11 (w : World) : Calls Tryz.prog 101 #[.string (str [62, 61])] w fun e w' => e = .returned (.int .i64 2) ∧ w' = w := by
 go_enter Tryz.func101, Tryz.ntmps101;go_wp2;go_ret;exact ⟨rfl, rfl⟩
set_option maxHeartbeats 1000000 in
theorem args_12 (w : World) : Calls Tryz.prog 101 #[.string (str [43])] w fun e w' => e = .returned (.int .i64 2) ∧ w' = w := by
 go_enter Tryz.func101, Tryz.ntmps101;go_wp2;go_ret;exact ⟨rfl, rfl⟩
set_option maxHeartbeats 1000000 in
theorem args_13 (w : World) : Calls Tryz.prog 101 #[.string (str [45])] w fun e w' => e = .returned (.int .i64 2) ∧ w' = w := by
 go_enter Tryz.func101, Tryz.ntmps101;go_wp2;go_ret;exact ⟨rfl, rfl⟩
set_option maxHeartbeats 1000000 in
theorem args_14 (w : World) : Calls Tryz.prog 101 #[.string (str [42])] w fun e w' => e = .returned (.int .i64 2) ∧ w' = w := by
 go_enter Tryz.func101, Tryz.ntmps101;go_wp2;go_ret;exact ⟨rfl, rfl⟩
set_option maxHeartbeats 1000000 in
theorem args_15 (w : World) : Calls Tryz.prog 101 #[.string (str [47])] w fun e w' => e = .returned (.int .i64 2) ∧ w' = w := by
 go_enter Tryz.func101, Tryz.ntmps101;go_wp2;go_ret;exact ⟨rfl, rfl⟩
set_option maxHeartbeats 1000000 in
theorem args_16 (w : World) : Calls Tryz.prog 101 #[.string (str [37])] w fun e w' => e = .returned (.int .i64 2) ∧ w' = w := by
 go_enter Tryz.func101, Tryz.ntmps101;go_wp2;go_ret;exact ⟨rfl, rfl⟩
set_option maxHeartbeats 2000000 in
theorem args_none (s : List UInt8) (w : World) (h0 : ¬ s = [78, 79, 84]) (h1 : ¬ s = [73, 83, 78, 85, 76, 76]) (h2 : ¬ s = [78, 79, 84, 78, 85, 76, 76]) (h3 : ¬ s = [78, 69, 71]) (h4 : ¬ s = [79, 82]) (h5 : ¬ s = [65, 78, 68]) (h6 : ¬ s = [61]) (h7 : ¬ s = [60, 62]) (h8 : ¬ s = [60]) (h9 : ¬ s = [60, 61]) (h10 : ¬ s = [62]) (h11 : ¬ s = [62, 61]) (h12 : ¬ s = [43]) (h13 : ¬ s = [45]) (h14 : ¬ s = [42]) (h15 : ¬ s = [47]) (h16 : ¬ s = [37]) : Calls Tryz.prog 101 #[.string (str s)] w fun e w' => e = .returned (.int .i64 (-1)) ∧ w' = w := by
 have e0 := str_no h0;have e1 := str_no h1;have e2 := str_no h2;have e3 := str_no h3;have e4 := str_no h4;have e5 := str_no h5;have e6 := str_no h6;have e7 := str_no h7;have e8 := str_no h8;have e9 := str_no h9;have e10 := str_no h10;have e11 := str_no h11;have e12 := str_no h12;have e13 := str_no h13;have e14 := str_no h14;have e15 := str_no h15;have e16 := str_no h16;go_enter Tryz.func101, Tryz.ntmps101;go_wp2;go_ret;exact ⟨rfl, rfl⟩
theorem args_any (s : List UInt8) (w : World) : Calls Tryz.prog 101 #[.string (str s)] w fun e w' => e = .returned (.int .i64 (argsN s)) ∧ w' = w := by
 by_cases h0 : s = [78, 79, 84]
 ·subst h0; exact args_0 w
 by_cases h1 : s = [73, 83, 78, 85, 76, 76]
 ·subst h1; exact args_1 w
 by_cases h2 : s = [78, 79, 84, 78, 85, 76, 76]
 ·subst h2; exact args_2 w
 by_cases h3 : s = [78, 69, 71]
 ·subst h3; exact args_3 w
 by_cases h4 : s = [79, 82]
 ·subst h4; exact args_4 w
 by_cases h5 : s = [65, 78, 68]
 ·subst h5; exact args_5 w
 by_cases h6 : s = [61]
 ·subst h6; exact args_6 w
 by_cases h7 : s = [60, 62]
 ·subst h7; exact args_7 w
 by_cases h8 : s = [60]
 ·subst h8; exact args_8 w
 by_cases h9 : s = [60, 61]
 ·subst h9; exact args_9 w
 by_cases h10 : s = [62]
 ·subst h10; exact args_10 w
 by_cases h11 : s = [62, 61]
 ·subst h11; exact args_11 w
 by_cases h12 : s = [43]
 ·subst h12; exact args_12 w
 by_cases h13 : s = [45]
 ·subst h13; exact args_13 w
 by_cases h14 : s = [42]
 ·subst h14; exact args_14 w
 by_cases h15 : s = [47]
 ·subst h15; exact args_15 w
 by_cases h16 : s = [37]
 ·subst h16; exact args_16 w
 have e : argsN s = -1 := by
  unfold argsN;rw [if_neg (by simp only [wNOT, wISNULL, wNOTNULL, wNEG]; simp [*]), if_neg (by simp only [wOR, wAND]; simp [*])]
 rw [e];exact args_none s w h0 h1 h2 h3 h4 h5 h6 h7 h8 h9 h10 h11 h12 h13 h14 h15 h16
end Go.Proofs.YtdfojghhpdkpfaaGreatDoor
