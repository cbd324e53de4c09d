/-
  The walk of expr.does.
-/
import Derived.Test.YtakbikibahhepaaExW6
set_option linter.unusedSimpArgs false
set_option linter.unusedVariables false
namespace Go.Proofs.Ytakbikibahhepaa
open Go.RowKit

theorem VaR.one {w : World} {S : Nat → Prop} {A : Option Addr} {n c : Nat} {a : Val} {l : List Val} (h : VaR w S (.slice A n c) (a :: l)) : ∃ ad, A = some ad ∧ S ad.block ∧
    w.cell? ad = some (.int .i64 a.kind) ∧ w.cell? ⟨ad.block, ad.off + 1, none⟩ = some (.int .i64 a.n) ∧ w.cell? ⟨ad.block, ad.off + 2, none⟩ = some (.string (str a.s)) := by
  obtain ⟨ad, rfl, hS, d0, d1, d2⟩ := VaR.cells h (i := 0) (by simp)
  simp only [Nat.zero_mul, add_zero, List.getElem_cons_zero] at d0 d1 d2
  exact ⟨ad, rfl, hS, d0, d1, d2⟩
theorem VaR.two {w : World} {S : Nat → Prop} {A : Option Addr} {n c : Nat} {a b : Val} {l : List Val} (h : VaR w S (.slice A n c) (a :: b :: l)) : ∃ ad, A = some ad ∧ S ad.block ∧
    w.cell? ad = some (.int .i64 a.kind) ∧ w.cell? ⟨ad.block, ad.off + 1, none⟩ = some (.int .i64 a.n) ∧ w.cell? ⟨ad.block, ad.off + 2, none⟩ = some (.string (str a.s)) ∧
    w.cell? ⟨ad.block, ad.off + 3, none⟩ = some (.int .i64 b.kind) ∧ w.cell? ⟨ad.block, ad.off + 4, none⟩ = some (.int .i64 b.n) ∧ w.cell? ⟨ad.block, ad.off + 5, none⟩ = some (.string (str b.s)) := by
  obtain ⟨ad, rfl, hS, d0, d1, d2⟩ := VaR.cells h (i := 0) (by simp)
  obtain ⟨ad', e, _, e0, e1, e2⟩ := VaR.cells h (i := 1) (by simp)
  injection e with e
  subst e
  simp only [Nat.zero_mul, add_zero, List.getElem_cons_zero, Nat.one_mul, List.getElem_cons_succ] at d0 d1 d2 e0 e1 e2
  rw [addr_add _ _ (by omega)] at e0 e1 e2
  exact ⟨ad, rfl, hS, d0, d1, d2, e0, e1, e2⟩
theorem does_results {W : World} {k : Nat} {v : Val} {n : Int} (R : Row W k 23 (valCs v)) {tmps : Array Value} (h1 : tmps.getD 4 undef = .pointer (some ⟨k, 0, none⟩)) (h2 : tmps.getD 5 undef = .int .i64 n) :
    (results Try.f38 tmps).run Try.prog W = .ok (.tuple #[valV v, .int .i64 n]) W := by
  have d0 : W.cell? ⟨k, 0, none⟩ = some (.int .i64 v.kind) := R.cell 0
  have d1 : W.cell? ⟨k, 1, none⟩ = some (.int .i64 v.n) := R.cell 1
  have d2 : W.cell? ⟨k, 2, none⟩ = some (.string (str v.s)) := R.cell 2
  simp at h1 h2
  simp [results, Try.results38, h1, h2, go_sem, d0, d1, d2]
set_option maxHeartbeats 4000000 in
theorem does_isnull (A : Option Addr) (cp : Nat) (a : Val) (S : Nat → Prop) (w : World) (hv : VaR w S (.slice A 1 cp) [a]) (hc : 1 ≤ cp) (hm : cp ≤ maxLen) : Calls Try.prog 38 #[.string (str [73, 83, 78, 85, 76, 76]), .slice A 1 cp] w (ValEP (truthV (decide (a.kind = 0)), 0) w) := by
  unfold maxLen at hm
  have Hv := Lib.hid hv
  have hr0 := Row.new w 23 (valCs .zero)
  have hS0 := (Same.refl (fun _ => True) w).alloc (.cells (valCs .zero).toArray 23)
  have Hr0 := Lib.hid hr0
  have HS0 := Lib.hid hS0
  obtain ⟨ad, rfl, -, d0, d1, d2⟩ := VaR.one hv
  have hab := World.block_lt_of_cell? w _ d0
  clear hv hr0 hS0
  obtain ⟨B, hB⟩ : ∃ B, decide (a.kind = 0) = B := ⟨_, rfl⟩
  have gn := fun W => exnull_any a W
  rw [hB] at gn
  have hB2 : decide (a.kind = 0) = B := by exact hB
  rw [hB2]
  have gt := fun W => extruth_any (B) W
  clear hB hB2
  cases B
  all_goals

    go_enter Try.func38, Try.ntmps38
    go_wp2_with (go_at_call 51; refine stopAt ?_)
    unfold Hid
    refine (gn _).mono ?_
    rintro e w1 ⟨rfl, hS1⟩
    go_wp2_with (go_at_call 32; refine stopAt ?_)
    unfold Hid
    refine (gt _).mono ?_
    rintro e w2 ⟨rfl, hS2⟩
    have hS := hS1.trans hS2
    have hr := Hr0.out.keep hS trivial
    have r0 : w2.cell? ⟨w.heap.size, 0, none⟩ = some (.int .i64 0) := hr.cell 0
    have r1 : w2.cell? ⟨w.heap.size, 1, none⟩ = some (.int .i64 0) := hr.cell 1
    have r2 : w2.cell? ⟨w.heap.size, 2, none⟩ = some (.string (str [])) := hr.cell 2
    have f0 : w2.frozen? ⟨w.heap.size, 0, none⟩ = false := hr.frozen 0
    have f1 : w2.frozen? ⟨w.heap.size, 1, none⟩ = false := hr.frozen 1
    have f2 : w2.frozen? ⟨w.heap.size, 2, none⟩ = false := hr.frozen 2
    have y1 := hr.lt
    have Hr := Lib.hid hr
    have HS := Lib.hid hS
    clear hr hS hS1 hS2
    go_wp2
    refine bodyPost_ret (does_results (n := 0) (Hr.out.set3 (truthV _)) rfl rfl) rfl (ValEP.mk' (rfl) ?_)
    exact ((HS0.out.trans HS.out)).set3 (fun h => by omega) _ _ _
set_option maxHeartbeats 4000000 in
theorem does_notnull (A : Option Addr) (cp : Nat) (a : Val) (S : Nat → Prop) (w : World) (hv : VaR w S (.slice A 1 cp) [a]) (hc : 1 ≤ cp) (hm : cp ≤ maxLen) : Calls Try.prog 38 #[.string (str [78, 79, 84, 78, 85, 76, 76]), .slice A 1 cp] w (ValEP (truthV (decide (a.kind ≠ 0)), 0) w) := by
  unfold maxLen at hm
  have Hv := Lib.hid hv
  have hr0 := Row.new w 23 (valCs .zero)
  have hS0 := (Same.refl (fun _ => True) w).alloc (.cells (valCs .zero).toArray 23)
  have Hr0 := Lib.hid hr0
  have HS0 := Lib.hid hS0
  obtain ⟨ad, rfl, -, d0, d1, d2⟩ := VaR.one hv
  have hab := World.block_lt_of_cell? w _ d0
  clear hv hr0 hS0
  obtain ⟨B, hB⟩ : ∃ B, decide (a.kind = 0) = B := ⟨_, rfl⟩
  have gn := fun W => exnull_any a W
  rw [hB] at gn
  have hB2 : decide (a.kind ≠ 0) = !B := by rw [← hB]; simp
  rw [hB2]
  have gt := fun W => extruth_any (!B) W
  clear hB hB2
  cases B
  all_goals
    simp only [Bool.not_false, Bool.not_true] at gt
    go_enter Try.func38, Try.ntmps38
    go_wp2_with (go_at_call 51; refine stopAt ?_)
    unfold Hid
    refine (gn _).mono ?_
    rintro e w1 ⟨rfl, hS1⟩
    go_wp2_with (go_at_call 32; refine stopAt ?_)
    unfold Hid
    refine (gt _).mono ?_
    rintro e w2 ⟨rfl, hS2⟩
    have hS := hS1.trans hS2
    have hr := Hr0.out.keep hS trivial
    have r0 : w2.cell? ⟨w.heap.size, 0, none⟩ = some (.int .i64 0) := hr.cell 0
    have r1 : w2.cell? ⟨w.heap.size, 1, none⟩ = some (.int .i64 0) := hr.cell 1
    have r2 : w2.cell? ⟨w.heap.size, 2, none⟩ = some (.string (str [])) := hr.cell 2
    have f0 : w2.frozen? ⟨w.heap.size, 0, none⟩ = false := hr.frozen 0
    have f1 : w2.frozen? ⟨w.heap.size, 1, none⟩ = false := hr.frozen 1
    have f2 : w2.frozen? ⟨w.heap.size, 2, none⟩ = false := hr.frozen 2
    have y1 := hr.lt
    have Hr := Lib.hid hr
    have HS := Lib.hid hS
    clear hr hS hS1 hS2
    go_wp2
    refine bodyPost_ret (does_results (n := 0) (Hr.out.set3 (truthV _)) rfl rfl) rfl (ValEP.mk' (rfl) ?_)
    exact ((HS0.out.trans HS.out)).set3 (fun h => by omega) _ _ _
set_option maxHeartbeats 4000000 in
theorem does_and (A : Option Addr) (cp : Nat) (a b : Val) (S : Nat → Prop) (w : World) (hv : VaR w S (.slice A 2 cp) [a, b]) (hc : 2 ≤ cp) (hm : cp ≤ maxLen) : Calls Try.prog 38 #[.string (str [65, 78, 68]), .slice A 2 cp] w (ValEP (bothF 0 a b, 0) w) := by
  unfold maxLen at hm
  have Hv := Lib.hid hv
  have hr0 := Row.new w 23 (valCs .zero)
  have hS0 := (Same.refl (fun _ => True) w).alloc (.cells (valCs .zero).toArray 23)
  have Hr0 := Lib.hid hr0
  have HS0 := Lib.hid hS0
  rw [← bothL_two]
  have gb := fun v W h => exboth_any v [a, b] 0 S W h
  have hv1 := RowR.keepAll hv hS0
  clear hv hr0 hS0
  go_enter Try.func38, Try.ntmps38
  go_wp2_with (go_at_call 52; refine stopAt ?_)
  unfold Hid
  refine (gb _ _ hv1).mono ?_
  rintro e w1 ⟨rfl, hS1⟩
  have hr := Hr0.out.keep hS1 trivial
  have r0 : w1.cell? ⟨w.heap.size, 0, none⟩ = some (.int .i64 0) := hr.cell 0
  have r1 : w1.cell? ⟨w.heap.size, 1, none⟩ = some (.int .i64 0) := hr.cell 1
  have r2 : w1.cell? ⟨w.heap.size, 2, none⟩ = some (.string (str [])) := hr.cell 2
  have f0 : w1.frozen? ⟨w.heap.size, 0, none⟩ = false := hr.frozen 0
  have f1 : w1.frozen? ⟨w.heap.size, 1, none⟩ = false := hr.frozen 1
  have f2 : w1.frozen? ⟨w.heap.size, 2, none⟩ = false := hr.frozen 2
  have y1 := hr.lt
  have Hr := Lib.hid hr
  have HS := Lib.hid hS1
  clear hr hS1
  go_wp2
  refine bodyPost_ret (does_results (n := 0) (Hr.out.set3 (bothL 0 [a, b] false)) rfl rfl) rfl (ValEP.mk' (rfl) ?_)
  exact ((HS0.out.trans HS.out)).set3 (fun h => by omega) _ _ _
set_option maxHeartbeats 4000000 in
theorem does_or (A : Option Addr) (cp : Nat) (a b : Val) (S : Nat → Prop) (w : World) (hv : VaR w S (.slice A 2 cp) [a, b]) (hc : 2 ≤ cp) (hm : cp ≤ maxLen) : Calls Try.prog 38 #[.string (str [79, 82]), .slice A 2 cp] w (ValEP (bothF 1 a b, 0) w) := by
  unfold maxLen at hm
  have Hv := Lib.hid hv
  have hr0 := Row.new w 23 (valCs .zero)
  have hS0 := (Same.refl (fun _ => True) w).alloc (.cells (valCs .zero).toArray 23)
  have Hr0 := Lib.hid hr0
  have HS0 := Lib.hid hS0
  rw [← bothL_two]
  have gb := fun v W h => exboth_any v [a, b] 1 S W h
  have hv1 := RowR.keepAll hv hS0
  clear hv hr0 hS0
  go_enter Try.func38, Try.ntmps38
  go_wp2_with (go_at_call 52; refine stopAt ?_)
  unfold Hid
  refine (gb _ _ hv1).mono ?_
  rintro e w1 ⟨rfl, hS1⟩
  have hr := Hr0.out.keep hS1 trivial
  have r0 : w1.cell? ⟨w.heap.size, 0, none⟩ = some (.int .i64 0) := hr.cell 0
  have r1 : w1.cell? ⟨w.heap.size, 1, none⟩ = some (.int .i64 0) := hr.cell 1
  have r2 : w1.cell? ⟨w.heap.size, 2, none⟩ = some (.string (str [])) := hr.cell 2
  have f0 : w1.frozen? ⟨w.heap.size, 0, none⟩ = false := hr.frozen 0
  have f1 : w1.frozen? ⟨w.heap.size, 1, none⟩ = false := hr.frozen 1
  have f2 : w1.frozen? ⟨w.heap.size, 2, none⟩ = false := hr.frozen 2
  have y1 := hr.lt
  have Hr := Lib.hid hr
  have HS := Lib.hid hS1
  clear hr hS1
  go_wp2
  refine bodyPost_ret (does_results (n := 0) (Hr.out.set3 (bothL 1 [a, b] false)) rfl rfl) rfl (ValEP.mk' (rfl) ?_)
  exact ((HS0.out.trans HS.out)).set3 (fun h => by omega) _ _ _
set_option maxHeartbeats 4000000 in
theorem does_not (A : Option Addr) (cp : Nat) (a : Val) (S : Nat → Prop) (w : World) (hv : VaR w S (.slice A 1 cp) [a]) (hc : 1 ≤ cp) (hm : cp ≤ maxLen) : Calls Try.prog 38 #[.string (str [78, 79, 84]), .slice A 1 cp] w (ValEP (if a.kind = 0 then (.zero, 0) else (truthV (decide (a ≠ ⟨1, 1, []⟩)), 0)) w) := by
  unfold maxLen at hm
  have Hv := Lib.hid hv
  have hr0 := Row.new w 23 (valCs .zero)
  have hS0 := (Same.refl (fun _ => True) w).alloc (.cells (valCs .zero).toArray 23)
  have Hr0 := Lib.hid hr0
  have HS0 := Lib.hid hS0
  obtain ⟨D, hD⟩ : ∃ D, (if a.kind = 0 then ((.zero, 0) : Val × Int) else (truthV (decide (a ≠ ⟨1, 1, []⟩)), 0)) = D := ⟨_, rfl⟩
  rw [hD]
  have HN : Hid ((∃ x ∈ [a], x.kind = 0) → D = (.zero, 0)) := fun ⟨x, hx, h0⟩ => by
    rw [← hD, if_pos]
    simp only [List.mem_cons, List.not_mem_nil, or_false] at hx; subst hx; exact h0
  have HF : Hid ((∀ x ∈ [a], x.kind ≠ 0) → D = (truthV (decide (a ≠ ⟨1, 1, []⟩)), 0)) := fun h => by
    rw [← hD, if_neg]
    exact h a (by simp)
  clear hD hv hr0 hS0
  obtain ⟨l, hl⟩ : ∃ l, l = [a] := ⟨_, rfl⟩
  have hln : l.length = 1 := by rw [hl]; rfl
  have Hl := Lib.hid hl
  have Hln := Lib.hid hln
  clear hl hln
  go_enter Try.func38, Try.ntmps38
  go_wp2
  go_loopw [7, 34] (fun _ i wr => ∃ (j : Nat), j ≤ 1 ∧ i = .int .i64 j ∧ (∀ x ∈ l.take j, x.kind ≠ 0) ∧ Row wr w.heap.size 23 (valCs .zero) ∧ Same (fun _ => True) w wr) (fun _ i _ => 1 - (intOf i).toNat)
  case atStart => exact ⟨0, Nat.zero_le _, rfl, by simp, Hr0.out, HS0.out⟩
  case round =>
    obtain ⟨j, hj, rfl, hall, hr, hS⟩ := hrel
    have Hall := Lib.hid hall
    have Hr := Lib.hid hr
    have HS := Lib.hid hS
    clear hall
    by_cases hlt : j < 1
    · have hjl : j < l.length := by rw [Hln.out]; exact hlt
      have hvj : VaR wr S (.slice A 1 cp) l := by rw [Hl.out]; exact RowR.keepAll Hv.out hS
      obtain ⟨ad, rfl, -, d0, d1, d2⟩ := VaR.cells hvj hjl
      have x1 : (0 : Int) ≤ (j : Int) := by omega
      have x2 : (j : Int) < 1 := by omega
      have htk : l.take (j + 1) = l.take j ++ [l[j]] := List.take_succ_eq_append_getElem hjl
      have hmem : l[j] ∈ l := List.getElem_mem hjl
      generalize l[j] = x at *
      have Htk := Lib.hid htk
      have Hmem := Lib.hid hmem
      have hx := Row.new wr 23 (valCs x)
      have hSx := (Same.refl (fun _ => True) wr).alloc (.cells (valCs x).toArray 23)
      have HSx := Lib.hid hSx
      have gn := fun W => exnull_any x W
      have hz := hr.lt
      clear hx hSx hr hS htk hmem hvj hjl
      by_cases h1 : x.kind = 0
      · have q1 : decide (x.kind = 0) = true := by simpa using h1
        rw [q1] at gn
        have H1 := Lib.hid h1
        clear h1 q1
        go_wp2_with (go_at_call 51; refine stopAt ?_)
        unfold Hid
        refine (gn _).mono ?_
        rintro e w3 ⟨rfl, hS3⟩
        have hS4 := HSx.out.trans hS3
        have hr3 := Hr.out.keep hS4 trivial
        have r0 : w3.cell? ⟨w.heap.size, 0, none⟩ = some (.int .i64 0) := hr3.cell 0
        have r1 : w3.cell? ⟨w.heap.size, 1, none⟩ = some (.int .i64 0) := hr3.cell 1
        have r2 : w3.cell? ⟨w.heap.size, 2, none⟩ = some (.string (str [])) := hr3.cell 2
        have f0 : w3.frozen? ⟨w.heap.size, 0, none⟩ = false := hr3.frozen 0
        have f1 : w3.frozen? ⟨w.heap.size, 1, none⟩ = false := hr3.frozen 1
        have f2 : w3.frozen? ⟨w.heap.size, 2, none⟩ = false := hr3.frozen 2
        have y1 := hr3.lt
        have Hr3 := Lib.hid hr3
        have HS4 := Lib.hid hS4
        clear hS4 hr3 hS3 hz
        go_wp2
        refine bodyPost_ret (does_results (n := 0) (Hr3.out.set3 .zero) rfl rfl) rfl (ValEP.mk' (HN.out ⟨x, by have := Hmem.out; rwa [Hl.out] at this, H1.out⟩) ?_)
        exact (HS.out.trans HS4.out).set3 (fun h => by omega) _ _ _
      · have q1 : decide (x.kind = 0) = false := by simpa using h1
        rw [q1] at gn
        have H1 := Lib.hid h1
        clear h1 q1
        go_wp2_with (go_at_call 51; refine stopAt ?_)
        unfold Hid
        refine (gn _).mono ?_
        rintro e w3 ⟨rfl, hS3⟩
        have HS3 := Lib.hid (HSx.out.trans hS3)
        clear hS3
        go_wp2
        go_roundw
        case rel =>
          refine ⟨j + 1, by omega, by go_num, fun y hy => ?_, Hr.out.keep HS3.out trivial, HS.out.trans HS3.out⟩
          rw [Htk.out] at hy
          rcases List.mem_append.1 hy with hy | hy
          · exact Hall.out y hy
          · simp only [List.mem_cons, List.not_mem_nil, or_false] at hy
            rw [hy]; exact H1.out
        case measure => simp [intOf]; omega
    · obtain rfl : j = 1 := by omega
      have hE : D = (truthV (decide (a ≠ ⟨1, 1, []⟩)), 0) := HF.out fun x hx => Hall.out x (by rw [List.take_of_length_le (by rw [Hln.out]; omega), Hl.out]; exact hx)
      obtain ⟨ad, rfl, -, d0, d1, d2⟩ := VaR.one (RowR.keepAll Hv.out hS)
      have HE := Lib.hid hE
      have z1 := hr.lt
      clear hE hr hS
      obtain ⟨B, hB⟩ : ∃ B, decide (a = ⟨1, 1, []⟩) = B := ⟨_, rfl⟩
      have gn : ∀ W, Calls Try.prog 17 #[valV a] W (BoolP B W) := fun W => by have := exTrue_any a W; unfold isTrue at this; rwa [hB] at this
      have hB2 : decide (a ≠ ⟨1, 1, []⟩) = !B := by rw [← hB]; simp
      have gt := fun W => extruth_any (!B) W
      have HB2 := Lib.hid hB2
      clear hB hB2
      cases B
      all_goals
        simp only [Bool.not_false, Bool.not_true] at gt
        go_wp2_with (go_at_call 17; refine stopAt ?_)
        unfold Hid
        refine (gn _).mono ?_
        rintro e w1 ⟨rfl, hS1⟩
        go_wp2_with (go_at_call 32; refine stopAt ?_)
        unfold Hid
        refine (gt _).mono ?_
        rintro e w2 ⟨rfl, hS2⟩
        have hSz := hS1.trans hS2
        clear hS1 hS2
        have hr3 := Hr.out.keep hSz trivial
        have r0 : w2.cell? ⟨w.heap.size, 0, none⟩ = some (.int .i64 0) := hr3.cell 0
        have r1 : w2.cell? ⟨w.heap.size, 1, none⟩ = some (.int .i64 0) := hr3.cell 1
        have r2 : w2.cell? ⟨w.heap.size, 2, none⟩ = some (.string (str [])) := hr3.cell 2
        have f0 : w2.frozen? ⟨w.heap.size, 0, none⟩ = false := hr3.frozen 0
        have f1 : w2.frozen? ⟨w.heap.size, 1, none⟩ = false := hr3.frozen 1
        have f2 : w2.frozen? ⟨w.heap.size, 2, none⟩ = false := hr3.frozen 2
        have y1 := hr3.lt
        have Hr3 := Lib.hid hr3
        have HSz := Lib.hid hSz
        clear hr3 hSz
        go_wp2
        refine bodyPost_ret (does_results (n := 0) (Hr3.out.set3 (truthV _)) rfl rfl) rfl (ValEP.mk' (by rw [HE.out, HB2.out]; rfl) ?_)
        exact (HS.out.trans HSz.out).set3 (fun h => by omega) _ _ _
set_option maxHeartbeats 4000000 in
theorem does_neg (A : Option Addr) (cp : Nat) (a : Val) (S : Nat → Prop) (w : World) (hv : VaR w S (.slice A 1 cp) [a]) (hc : 1 ≤ cp) (hm : cp ≤ maxLen) (ha : i64B a.n = true) : Calls Try.prog 38 #[.string (str [78, 69, 71]), .slice A 1 cp] w (ValEP (if a.kind = 0 then (.zero, 0) else numF (fitF (-a.n))) w) := by
  unfold maxLen at hm
  have Hv := Lib.hid hv
  have hr0 := Row.new w 23 (valCs .zero)
  have hS0 := (Same.refl (fun _ => True) w).alloc (.cells (valCs .zero).toArray 23)
  have Hr0 := Lib.hid hr0
  have HS0 := Lib.hid hS0
  obtain ⟨D, hD⟩ : ∃ D, (if a.kind = 0 then ((.zero, 0) : Val × Int) else numF (fitF (-a.n))) = D := ⟨_, rfl⟩
  rw [hD]
  have HN : Hid ((∃ x ∈ [a], x.kind = 0) → D = (.zero, 0)) := fun ⟨x, hx, h0⟩ => by
    rw [← hD, if_pos]
    simp only [List.mem_cons, List.not_mem_nil, or_false] at hx; subst hx; exact h0
  have HF : Hid ((∀ x ∈ [a], x.kind ≠ 0) → D = numF (fitF (-a.n))) := fun h => by
    rw [← hD, if_neg]
    exact h a (by simp)
  clear hD hv hr0 hS0
  obtain ⟨l, hl⟩ : ∃ l, l = [a] := ⟨_, rfl⟩
  have hln : l.length = 1 := by rw [hl]; rfl
  have Hl := Lib.hid hl
  have Hln := Lib.hid hln
  clear hl hln
  have HA := Lib.hid ha
  clear ha
  go_enter Try.func38, Try.ntmps38
  go_wp2
  go_loopw [7, 34] (fun _ i wr => ∃ (j : Nat), j ≤ 1 ∧ i = .int .i64 j ∧ (∀ x ∈ l.take j, x.kind ≠ 0) ∧ Row wr w.heap.size 23 (valCs .zero) ∧ Same (fun _ => True) w wr) (fun _ i _ => 1 - (intOf i).toNat)
  case atStart => exact ⟨0, Nat.zero_le _, rfl, by simp, Hr0.out, HS0.out⟩
  case round =>
    obtain ⟨j, hj, rfl, hall, hr, hS⟩ := hrel
    have Hall := Lib.hid hall
    have Hr := Lib.hid hr
    have HS := Lib.hid hS
    clear hall
    by_cases hlt : j < 1
    · have hjl : j < l.length := by rw [Hln.out]; exact hlt
      have hvj : VaR wr S (.slice A 1 cp) l := by rw [Hl.out]; exact RowR.keepAll Hv.out hS
      obtain ⟨ad, rfl, -, d0, d1, d2⟩ := VaR.cells hvj hjl
      have x1 : (0 : Int) ≤ (j : Int) := by omega
      have x2 : (j : Int) < 1 := by omega
      have htk : l.take (j + 1) = l.take j ++ [l[j]] := List.take_succ_eq_append_getElem hjl
      have hmem : l[j] ∈ l := List.getElem_mem hjl
      generalize l[j] = x at *
      have Htk := Lib.hid htk
      have Hmem := Lib.hid hmem
      have hx := Row.new wr 23 (valCs x)
      have hSx := (Same.refl (fun _ => True) wr).alloc (.cells (valCs x).toArray 23)
      have HSx := Lib.hid hSx
      have gn := fun W => exnull_any x W
      have hz := hr.lt
      clear hx hSx hr hS htk hmem hvj hjl
      by_cases h1 : x.kind = 0
      · have q1 : decide (x.kind = 0) = true := by simpa using h1
        rw [q1] at gn
        have H1 := Lib.hid h1
        clear h1 q1
        go_wp2_with (go_at_call 51; refine stopAt ?_)
        unfold Hid
        refine (gn _).mono ?_
        rintro e w3 ⟨rfl, hS3⟩
        have hS4 := HSx.out.trans hS3
        have hr3 := Hr.out.keep hS4 trivial
        have r0 : w3.cell? ⟨w.heap.size, 0, none⟩ = some (.int .i64 0) := hr3.cell 0
        have r1 : w3.cell? ⟨w.heap.size, 1, none⟩ = some (.int .i64 0) := hr3.cell 1
        have r2 : w3.cell? ⟨w.heap.size, 2, none⟩ = some (.string (str [])) := hr3.cell 2
        have f0 : w3.frozen? ⟨w.heap.size, 0, none⟩ = false := hr3.frozen 0
        have f1 : w3.frozen? ⟨w.heap.size, 1, none⟩ = false := hr3.frozen 1
        have f2 : w3.frozen? ⟨w.heap.size, 2, none⟩ = false := hr3.frozen 2
        have y1 := hr3.lt
        have Hr3 := Lib.hid hr3
        have HS4 := Lib.hid hS4
        clear hS4 hr3 hS3 hz
        go_wp2
        refine bodyPost_ret (does_results (n := 0) (Hr3.out.set3 .zero) rfl rfl) rfl (ValEP.mk' (HN.out ⟨x, by have := Hmem.out; rwa [Hl.out] at this, H1.out⟩) ?_)
        exact (HS.out.trans HS4.out).set3 (fun h => by omega) _ _ _
      · have q1 : decide (x.kind = 0) = false := by simpa using h1
        rw [q1] at gn
        have H1 := Lib.hid h1
        clear h1 q1
        go_wp2_with (go_at_call 51; refine stopAt ?_)
        unfold Hid
        refine (gn _).mono ?_
        rintro e w3 ⟨rfl, hS3⟩
        have HS3 := Lib.hid (HSx.out.trans hS3)
        clear hS3
        go_wp2
        go_roundw
        case rel =>
          refine ⟨j + 1, by omega, by go_num, fun y hy => ?_, Hr.out.keep HS3.out trivial, HS.out.trans HS3.out⟩
          rw [Htk.out] at hy
          rcases List.mem_append.1 hy with hy | hy
          · exact Hall.out y hy
          · simp only [List.mem_cons, List.not_mem_nil, or_false] at hy
            rw [hy]; exact H1.out
        case measure => simp [intOf]; omega
    · obtain rfl : j = 1 := by omega
      have hE : D = numF (fitF (-a.n)) := HF.out fun x hx => Hall.out x (by rw [List.take_of_length_le (by rw [Hln.out]; omega), Hl.out]; exact hx)
      obtain ⟨ad, rfl, -, d0, d1, d2⟩ := VaR.one (RowR.keepAll Hv.out hS)
      have HE := Lib.hid hE
      have z1 := hr.lt
      clear hE hr hS
      have gm := fun W => exminus_any 0 a.n rfl HA.out W
      rw [show (0 : Int) - a.n = -a.n from by omega] at gm
      obtain ⟨R, hR⟩ : ∃ R, fitF (-a.n) = R := ⟨_, rfl⟩
      rw [hR] at gm
      have HR := Lib.hid hR
      clear hR
      have gu := fun W => exnumber_any R.1 R.2 W
      go_wp2_with (go_at_call 54; refine stopAt ?_)
      unfold Hid
      refine (gm _).mono ?_
      rintro e wq ⟨rfl, rfl⟩
      go_wp2_with (go_at_call 53; refine stopAt ?_)
      unfold Hid
      refine (gu _).mono ?_
      rintro e w2 ⟨rfl, hS2⟩
      have hSz := hS2
      clear hS2
      have hr3 := Hr.out.keep hSz trivial
      have r0 : w2.cell? ⟨w.heap.size, 0, none⟩ = some (.int .i64 0) := hr3.cell 0
      have r1 : w2.cell? ⟨w.heap.size, 1, none⟩ = some (.int .i64 0) := hr3.cell 1
      have r2 : w2.cell? ⟨w.heap.size, 2, none⟩ = some (.string (str [])) := hr3.cell 2
      have f0 : w2.frozen? ⟨w.heap.size, 0, none⟩ = false := hr3.frozen 0
      have f1 : w2.frozen? ⟨w.heap.size, 1, none⟩ = false := hr3.frozen 1
      have f2 : w2.frozen? ⟨w.heap.size, 2, none⟩ = false := hr3.frozen 2
      have y1 := hr3.lt
      have Hr3 := Lib.hid hr3
      have HSz := Lib.hid hSz
      clear hr3 hSz
      go_wp2
      refine bodyPost_ret (does_results (n := (numF R).2) (Hr3.out.set3 (numF R).1) rfl rfl) rfl (ValEP.mk' (by rw [HE.out, HR.out]) ?_)
      exact (HS.out.trans HSz.out).set3 (fun h => by omega) _ _ _
set_option maxHeartbeats 4000000 in
theorem does_eq (A : Option Addr) (cp : Nat) (a b : Val) (S : Nat → Prop) (w : World) (hv : VaR w S (.slice A 2 cp) [a, b]) (hc : 2 ≤ cp) (hm : cp ≤ maxLen) : Calls Try.prog 38 #[.string (str [61]), .slice A 2 cp] w (ValEP (if a.kind = 0 ∨ b.kind = 0 then (.zero, 0) else (truthV (holdsF .eq (cmpV a b)), 0)) w) := by
  unfold maxLen at hm
  have Hv := Lib.hid hv
  have hr0 := Row.new w 23 (valCs .zero)
  have hS0 := (Same.refl (fun _ => True) w).alloc (.cells (valCs .zero).toArray 23)
  have Hr0 := Lib.hid hr0
  have HS0 := Lib.hid hS0
  obtain ⟨D, hD⟩ : ∃ D, (if a.kind = 0 ∨ b.kind = 0 then ((.zero, 0) : Val × Int) else (truthV (holdsF .eq (cmpV a b)), 0)) = D := ⟨_, rfl⟩
  rw [hD]
  have HN : Hid ((∃ x ∈ [a, b], x.kind = 0) → D = (.zero, 0)) := fun ⟨x, hx, h0⟩ => by
    rw [← hD, if_pos]
    simp only [List.mem_cons, List.not_mem_nil, or_false] at hx; rcases hx with rfl | rfl; exact .inl h0; exact .inr h0
  have HF : Hid ((∀ x ∈ [a, b], x.kind ≠ 0) → D = (truthV (holdsF .eq (cmpV a b)), 0)) := fun h => by
    rw [← hD, if_neg]
    rintro (h0 | h0); exact h a (by simp) h0; exact h b (by simp) h0
  clear hD hv hr0 hS0
  obtain ⟨l, hl⟩ : ∃ l, l = [a, b] := ⟨_, rfl⟩
  have hln : l.length = 2 := by rw [hl]; rfl
  have Hl := Lib.hid hl
  have Hln := Lib.hid hln
  clear hl hln
  go_enter Try.func38, Try.ntmps38
  go_wp2
  go_loopw [7, 34] (fun _ i wr => ∃ (j : Nat), j ≤ 2 ∧ i = .int .i64 j ∧ (∀ x ∈ l.take j, x.kind ≠ 0) ∧ Row wr w.heap.size 23 (valCs .zero) ∧ Same (fun _ => True) w wr) (fun _ i _ => 2 - (intOf i).toNat)
  case atStart => exact ⟨0, Nat.zero_le _, rfl, by simp, Hr0.out, HS0.out⟩
  case round =>
    obtain ⟨j, hj, rfl, hall, hr, hS⟩ := hrel
    have Hall := Lib.hid hall
    have Hr := Lib.hid hr
    have HS := Lib.hid hS
    clear hall
    by_cases hlt : j < 2
    · have hjl : j < l.length := by rw [Hln.out]; exact hlt
      have hvj : VaR wr S (.slice A 2 cp) l := by rw [Hl.out]; exact RowR.keepAll Hv.out hS
      obtain ⟨ad, rfl, -, d0, d1, d2⟩ := VaR.cells hvj hjl
      have x1 : (0 : Int) ≤ (j : Int) := by omega
      have x2 : (j : Int) < 2 := by omega
      have htk : l.take (j + 1) = l.take j ++ [l[j]] := List.take_succ_eq_append_getElem hjl
      have hmem : l[j] ∈ l := List.getElem_mem hjl
      generalize l[j] = x at *
      have Htk := Lib.hid htk
      have Hmem := Lib.hid hmem
      have hx := Row.new wr 23 (valCs x)
      have hSx := (Same.refl (fun _ => True) wr).alloc (.cells (valCs x).toArray 23)
      have HSx := Lib.hid hSx
      have gn := fun W => exnull_any x W
      have hz := hr.lt
      clear hx hSx hr hS htk hmem hvj hjl
      by_cases h1 : x.kind = 0
      · have q1 : decide (x.kind = 0) = true := by simpa using h1
        rw [q1] at gn
        have H1 := Lib.hid h1
        clear h1 q1
        go_wp2_with (go_at_call 51; refine stopAt ?_)
        unfold Hid
        refine (gn _).mono ?_
        rintro e w3 ⟨rfl, hS3⟩
        have hS4 := HSx.out.trans hS3
        have hr3 := Hr.out.keep hS4 trivial
        have r0 : w3.cell? ⟨w.heap.size, 0, none⟩ = some (.int .i64 0) := hr3.cell 0
        have r1 : w3.cell? ⟨w.heap.size, 1, none⟩ = some (.int .i64 0) := hr3.cell 1
        have r2 : w3.cell? ⟨w.heap.size, 2, none⟩ = some (.string (str [])) := hr3.cell 2
        have f0 : w3.frozen? ⟨w.heap.size, 0, none⟩ = false := hr3.frozen 0
        have f1 : w3.frozen? ⟨w.heap.size, 1, none⟩ = false := hr3.frozen 1
        have f2 : w3.frozen? ⟨w.heap.size, 2, none⟩ = false := hr3.frozen 2
        have y1 := hr3.lt
        have Hr3 := Lib.hid hr3
        have HS4 := Lib.hid hS4
        clear hS4 hr3 hS3 hz
        go_wp2
        refine bodyPost_ret (does_results (n := 0) (Hr3.out.set3 .zero) rfl rfl) rfl (ValEP.mk' (HN.out ⟨x, by have := Hmem.out; rwa [Hl.out] at this, H1.out⟩) ?_)
        exact (HS.out.trans HS4.out).set3 (fun h => by omega) _ _ _
      · have q1 : decide (x.kind = 0) = false := by simpa using h1
        rw [q1] at gn
        have H1 := Lib.hid h1
        clear h1 q1
        go_wp2_with (go_at_call 51; refine stopAt ?_)
        unfold Hid
        refine (gn _).mono ?_
        rintro e w3 ⟨rfl, hS3⟩
        have HS3 := Lib.hid (HSx.out.trans hS3)
        clear hS3
        go_wp2
        go_roundw
        case rel =>
          refine ⟨j + 1, by omega, by go_num, fun y hy => ?_, Hr.out.keep HS3.out trivial, HS.out.trans HS3.out⟩
          rw [Htk.out] at hy
          rcases List.mem_append.1 hy with hy | hy
          · exact Hall.out y hy
          · simp only [List.mem_cons, List.not_mem_nil, or_false] at hy
            rw [hy]; exact H1.out
        case measure => simp [intOf]; omega
    · obtain rfl : j = 2 := by omega
      have hE : D = (truthV (holdsF .eq (cmpV a b)), 0) := HF.out fun x hx => Hall.out x (by rw [List.take_of_length_le (by rw [Hln.out]; omega), Hl.out]; exact hx)
      obtain ⟨ad, rfl, -, d0, d1, d2, b0, b1, b2⟩ := VaR.two (RowR.keepAll Hv.out hS)
      have HE := Lib.hid hE
      have z1 := hr.lt
      clear hE hr hS
      go_wp2
      refine wp_region_tail_lit (L := [.eq (.string (str [61])), .eq (.slice (some ad) 2 cp), .eq (.pointer (some ad)), .eq (valV a), .eq (.slice (some ad) 2 cp), .eq (.pointer (some ⟨ad.block, ad.off + 3, none⟩)), .eq (valV b), .eq (.int .i64 (cmpV a b)), .eq (.bool (holdsF .eq (cmpV a b))), .eq (valV (truthV (holdsF .eq (cmpV a b))))]) 10 (by kernel_rfl) (by kernel_rfl) rfl rfl rfl ?_ ?_
      · refine ⟨?_, ?_, ?_, ?_, ?_, ?_, ?_, ?_, ?_, ?_, trivial⟩
        · intro ac wc hs hd hz hf hw K hK
          have e0 : ac.eval (.tmp 0) = (.string (str [61])) := hf 0 rfl
          clear hd hz hf hw
          simp only [Region.wanted, if_true, Oper.wp, execOp, resolve, List.map_toArray, List.map_cons, List.map_nil, Option.map_some, Option.map_none, e0]
          go_simp
          exact hK _ _ rfl (Same.refl _ _)
        · intro ac wc hs hd hz hf hw K hK
          have e0 : ac.eval (.tmp 1) = (.slice (some ad) 2 cp) := hf 1 rfl
          clear hd hz hf hw
          simp only [Region.wanted, if_true, Oper.wp, execOp, resolve, List.map_toArray, List.map_cons, List.map_nil, Option.map_some, Option.map_none, e0]
          go_simp
          exact hK _ _ rfl (Same.refl _ _)
        · intro ac wc hs hd hz hf hw K hK
          have e0 : ac.eval (.tmp 71) = (.slice (some ad) 2 cp) := hw 1 rfl
          clear hd hz hf hw
          simp only [Region.wanted, if_true, Oper.wp, execOp, resolve, List.map_toArray, List.map_cons, List.map_nil, Option.map_some, Option.map_none, e0]
          go_simp
          exact hK _ _ rfl (Same.refl _ _)
        · intro ac wc hs hd hz hf hw K hK
          have e0 : ac.eval (.tmp 72) = (.pointer (some ad)) := hw 2 rfl
          have m0 : wc.cell? ad = some (.int .i64 a.kind) := hs.cell (p := ad) trivial d0
          have m1 : wc.cell? ⟨ad.block, ad.off + 1, none⟩ = some (.int .i64 a.n) := hs.cell (p := ⟨ad.block, ad.off + 1, none⟩) trivial d1
          have m2 : wc.cell? ⟨ad.block, ad.off + 2, none⟩ = some (.string (str a.s)) := hs.cell (p := ⟨ad.block, ad.off + 2, none⟩) trivial d2
          clear hd hz hf hw
          simp only [Region.wanted, if_true, Oper.wp, execOp, resolve, List.map_toArray, List.map_cons, List.map_nil, Option.map_some, Option.map_none, e0]
          go_simp
          exact hK _ _ rfl (Same.refl _ _)
        · intro ac wc hs hd hz hf hw K hK
          have e0 : ac.eval (.tmp 1) = (.slice (some ad) 2 cp) := hf 1 rfl
          clear hd hz hf hw
          simp only [Region.wanted, if_true, Oper.wp, execOp, resolve, List.map_toArray, List.map_cons, List.map_nil, Option.map_some, Option.map_none, e0]
          go_simp
          exact hK _ _ rfl (Same.refl _ _)
        · intro ac wc hs hd hz hf hw K hK
          have e0 : ac.eval (.tmp 74) = (.slice (some ad) 2 cp) := hw 4 rfl
          clear hd hz hf hw
          simp only [Region.wanted, if_true, Oper.wp, execOp, resolve, List.map_toArray, List.map_cons, List.map_nil, Option.map_some, Option.map_none, e0]
          go_simp
          exact hK _ _ rfl (Same.refl _ _)
        · intro ac wc hs hd hz hf hw K hK
          have e0 : ac.eval (.tmp 75) = (.pointer (some ⟨ad.block, ad.off + 3, none⟩)) := hw 5 rfl
          have m0 : wc.cell? ⟨ad.block, ad.off + 3, none⟩ = some (.int .i64 b.kind) := hs.cell (p := ⟨ad.block, ad.off + 3, none⟩) trivial b0
          have m1 : wc.cell? ⟨ad.block, ad.off + 4, none⟩ = some (.int .i64 b.n) := hs.cell (p := ⟨ad.block, ad.off + 4, none⟩) trivial b1
          have m2 : wc.cell? ⟨ad.block, ad.off + 5, none⟩ = some (.string (str b.s)) := hs.cell (p := ⟨ad.block, ad.off + 5, none⟩) trivial b2
          clear hd hz hf hw
          simp only [Region.wanted, if_true, Oper.wp, execOp, resolve, List.map_toArray, List.map_cons, List.map_nil, Option.map_some, Option.map_none, e0]
          go_simp
          exact hK _ _ rfl (Same.refl _ _)
        · intro ac wc hs hd hz hf hw K hK
          have e0 : ac.eval (.tmp 73) = (valV a) := hw 3 rfl
          have e1 : ac.eval (.tmp 76) = (valV b) := hw 6 rfl
          clear hd hz hf hw
          simp only [Region.wanted, if_true, Oper.wp, execOp, resolve, List.map_toArray, List.map_cons, List.map_nil, Option.map_some, Option.map_none, e0, e1]
          go_simp
          refine (exCompare_any a b _).mono ?_
          rintro e wd ⟨rfl, hs2⟩
          exact hK _ _ rfl hs2
        · intro ac wc hs hd hz hf hw K hK
          have e0 : ac.eval (.tmp 70) = (.string (str [61])) := hw 0 rfl
          have e1 : ac.eval (.tmp 77) = (.int .i64 (cmpV a b)) := hw 7 rfl
          clear hd hz hf hw
          simp only [Region.wanted, if_true, Oper.wp, execOp, resolve, List.map_toArray, List.map_cons, List.map_nil, Option.map_some, Option.map_none, e0, e1]
          go_simp
          refine (exholds_any [61] (cmpV a b) _).mono ?_
          rintro e wd ⟨rfl, rfl⟩
          exact hK _ _ rfl (Same.refl _ _)
        · intro ac wc hs hd hz hf hw K hK
          have e0 : ac.eval (.tmp 78) = (.bool (holdsF .eq (cmpV a b))) := hw 8 rfl
          clear hd hz hf hw
          simp only [Region.wanted, if_true, Oper.wp, execOp, resolve, List.map_toArray, List.map_cons, List.map_nil, Option.map_some, Option.map_none, e0]
          go_simp
          refine (extruth_any _ _).mono ?_
          rintro e wd ⟨rfl, hs2⟩
          exact hK _ _ rfl hs2
      · intro vs wR hvl hvp hsR
        rcases vs with _ | ⟨z0, _ | ⟨z1, _ | ⟨z2, _ | ⟨z3, _ | ⟨z4, _ | ⟨z5, _ | ⟨z6, _ | ⟨z7, _ | ⟨z8, _ | ⟨z9, _ | ⟨zz, zr⟩⟩⟩⟩⟩⟩⟩⟩⟩⟩⟩
        rotate_right 1
        · simp at hvl
        · simp at hvl
        · simp at hvl
        · simp at hvl
        · simp at hvl
        · simp at hvl
        · simp at hvl
        · simp at hvl
        · simp at hvl
        · simp at hvl
        · simp at hvl
        · obtain rfl : z0 = (.string (str [61])) := hvp 0 (by omega)
          obtain rfl : z1 = (.slice (some ad) 2 cp) := hvp 1 (by omega)
          obtain rfl : z2 = (.pointer (some ad)) := hvp 2 (by omega)
          obtain rfl : z3 = (valV a) := hvp 3 (by omega)
          obtain rfl : z4 = (.slice (some ad) 2 cp) := hvp 4 (by omega)
          obtain rfl : z5 = (.pointer (some ⟨ad.block, ad.off + 3, none⟩)) := hvp 5 (by omega)
          obtain rfl : z6 = (valV b) := hvp 6 (by omega)
          obtain rfl : z7 = (.int .i64 (cmpV a b)) := hvp 7 (by omega)
          obtain rfl : z8 = (.bool (holdsF .eq (cmpV a b))) := hvp 8 (by omega)
          obtain rfl : z9 = (valV (truthV (holdsF .eq (cmpV a b)))) := hvp 9 (by omega)
          clear hvl hvp
          simp only [putAll, Act.put, List.setIfInBounds_toArray, List.set_cons_succ, List.set_cons_zero, List.take_succ_cons, List.take_zero, List.drop_succ_cons, List.drop_zero, List.eraseIdx_cons_succ, List.eraseIdx_cons_zero]
          have hSz := hsR
          clear hsR
          have hr3 := Hr.out.keep hSz trivial
          have r0 : wR.cell? ⟨w.heap.size, 0, none⟩ = some (.int .i64 0) := hr3.cell 0
          have r1 : wR.cell? ⟨w.heap.size, 1, none⟩ = some (.int .i64 0) := hr3.cell 1
          have r2 : wR.cell? ⟨w.heap.size, 2, none⟩ = some (.string (str [])) := hr3.cell 2
          have f0 : wR.frozen? ⟨w.heap.size, 0, none⟩ = false := hr3.frozen 0
          have f1 : wR.frozen? ⟨w.heap.size, 1, none⟩ = false := hr3.frozen 1
          have f2 : wR.frozen? ⟨w.heap.size, 2, none⟩ = false := hr3.frozen 2
          have y1 := hr3.lt
          have Hr3 := Lib.hid hr3
          have HSz := Lib.hid hSz
          clear hr3 hSz
          go_wp2
          refine bodyPost_ret (does_results (n := 0) (Hr3.out.set3 (truthV (holdsF .eq (cmpV a b)))) rfl rfl) rfl (ValEP.mk' HE.out ?_)
          exact (HS.out.trans HSz.out).set3 (fun h => by omega) _ _ _
set_option maxHeartbeats 4000000 in
theorem does_ne (A : Option Addr) (cp : Nat) (a b : Val) (S : Nat → Prop) (w : World) (hv : VaR w S (.slice A 2 cp) [a, b]) (hc : 2 ≤ cp) (hm : cp ≤ maxLen) : Calls Try.prog 38 #[.string (str [60, 62]), .slice A 2 cp] w (ValEP (if a.kind = 0 ∨ b.kind = 0 then (.zero, 0) else (truthV (holdsF .ne (cmpV a b)), 0)) w) := by
  unfold maxLen at hm
  have Hv := Lib.hid hv
  have hr0 := Row.new w 23 (valCs .zero)
  have hS0 := (Same.refl (fun _ => True) w).alloc (.cells (valCs .zero).toArray 23)
  have Hr0 := Lib.hid hr0
  have HS0 := Lib.hid hS0
  obtain ⟨D, hD⟩ : ∃ D, (if a.kind = 0 ∨ b.kind = 0 then ((.zero, 0) : Val × Int) else (truthV (holdsF .ne (cmpV a b)), 0)) = D := ⟨_, rfl⟩
  rw [hD]
  have HN : Hid ((∃ x ∈ [a, b], x.kind = 0) → D = (.zero, 0)) := fun ⟨x, hx, h0⟩ => by
    rw [← hD, if_pos]
    simp only [List.mem_cons, List.not_mem_nil, or_false] at hx; rcases hx with rfl | rfl; exact .inl h0; exact .inr h0
  have HF : Hid ((∀ x ∈ [a, b], x.kind ≠ 0) → D = (truthV (holdsF .ne (cmpV a b)), 0)) := fun h => by
    rw [← hD, if_neg]
    rintro (h0 | h0); exact h a (by simp) h0; exact h b (by simp) h0
  clear hD hv hr0 hS0
  obtain ⟨l, hl⟩ : ∃ l, l = [a, b] := ⟨_, rfl⟩
  have hln : l.length = 2 := by rw [hl]; rfl
  have Hl := Lib.hid hl
  have Hln := Lib.hid hln
  clear hl hln
  go_enter Try.func38, Try.ntmps38
  go_wp2
  go_loopw [7, 34] (fun _ i wr => ∃ (j : Nat), j ≤ 2 ∧ i = .int .i64 j ∧ (∀ x ∈ l.take j, x.kind ≠ 0) ∧ Row wr w.heap.size 23 (valCs .zero) ∧ Same (fun _ => True) w wr) (fun _ i _ => 2 - (intOf i).toNat)
  case atStart => exact ⟨0, Nat.zero_le _, rfl, by simp, Hr0.out, HS0.out⟩
  case round =>
    obtain ⟨j, hj, rfl, hall, hr, hS⟩ := hrel
    have Hall := Lib.hid hall
    have Hr := Lib.hid hr
    have HS := Lib.hid hS
    clear hall
    by_cases hlt : j < 2
    · have hjl : j < l.length := by rw [Hln.out]; exact hlt
      have hvj : VaR wr S (.slice A 2 cp) l := by rw [Hl.out]; exact RowR.keepAll Hv.out hS
      obtain ⟨ad, rfl, -, d0, d1, d2⟩ := VaR.cells hvj hjl
      have x1 : (0 : Int) ≤ (j : Int) := by omega
      have x2 : (j : Int) < 2 := by omega
      have htk : l.take (j + 1) = l.take j ++ [l[j]] := List.take_succ_eq_append_getElem hjl
      have hmem : l[j] ∈ l := List.getElem_mem hjl
      generalize l[j] = x at *
      have Htk := Lib.hid htk
      have Hmem := Lib.hid hmem
      have hx := Row.new wr 23 (valCs x)
      have hSx := (Same.refl (fun _ => True) wr).alloc (.cells (valCs x).toArray 23)
      have HSx := Lib.hid hSx
      have gn := fun W => exnull_any x W
      have hz := hr.lt
      clear hx hSx hr hS htk hmem hvj hjl
      by_cases h1 : x.kind = 0
      · have q1 : decide (x.kind = 0) = true := by simpa using h1
        rw [q1] at gn
        have H1 := Lib.hid h1
        clear h1 q1
        go_wp2_with (go_at_call 51; refine stopAt ?_)
        unfold Hid
        refine (gn _).mono ?_
        rintro e w3 ⟨rfl, hS3⟩
        have hS4 := HSx.out.trans hS3
        have hr3 := Hr.out.keep hS4 trivial
        have r0 : w3.cell? ⟨w.heap.size, 0, none⟩ = some (.int .i64 0) := hr3.cell 0
        have r1 : w3.cell? ⟨w.heap.size, 1, none⟩ = some (.int .i64 0) := hr3.cell 1
        have r2 : w3.cell? ⟨w.heap.size, 2, none⟩ = some (.string (str [])) := hr3.cell 2
        have f0 : w3.frozen? ⟨w.heap.size, 0, none⟩ = false := hr3.frozen 0
        have f1 : w3.frozen? ⟨w.heap.size, 1, none⟩ = false := hr3.frozen 1
        have f2 : w3.frozen? ⟨w.heap.size, 2, none⟩ = false := hr3.frozen 2
        have y1 := hr3.lt
        have Hr3 := Lib.hid hr3
        have HS4 := Lib.hid hS4
        clear hS4 hr3 hS3 hz
        go_wp2
        refine bodyPost_ret (does_results (n := 0) (Hr3.out.set3 .zero) rfl rfl) rfl (ValEP.mk' (HN.out ⟨x, by have := Hmem.out; rwa [Hl.out] at this, H1.out⟩) ?_)
        exact (HS.out.trans HS4.out).set3 (fun h => by omega) _ _ _
      · have q1 : decide (x.kind = 0) = false := by simpa using h1
        rw [q1] at gn
        have H1 := Lib.hid h1
        clear h1 q1
        go_wp2_with (go_at_call 51; refine stopAt ?_)
        unfold Hid
        refine (gn _).mono ?_
        rintro e w3 ⟨rfl, hS3⟩
        have HS3 := Lib.hid (HSx.out.trans hS3)
        clear hS3
        go_wp2
        go_roundw
        case rel =>
          refine ⟨j + 1, by omega, by go_num, fun y hy => ?_, Hr.out.keep HS3.out trivial, HS.out.trans HS3.out⟩
          rw [Htk.out] at hy
          rcases List.mem_append.1 hy with hy | hy
          · exact Hall.out y hy
          · simp only [List.mem_cons, List.not_mem_nil, or_false] at hy
            rw [hy]; exact H1.out
        case measure => simp [intOf]; omega
    · obtain rfl : j = 2 := by omega
      have hE : D = (truthV (holdsF .ne (cmpV a b)), 0) := HF.out fun x hx => Hall.out x (by rw [List.take_of_length_le (by rw [Hln.out]; omega), Hl.out]; exact hx)
      obtain ⟨ad, rfl, -, d0, d1, d2, b0, b1, b2⟩ := VaR.two (RowR.keepAll Hv.out hS)
      have HE := Lib.hid hE
      have z1 := hr.lt
      clear hE hr hS
      go_wp2
      refine wp_region_tail_lit (L := [.eq (.string (str [60, 62])), .eq (.slice (some ad) 2 cp), .eq (.pointer (some ad)), .eq (valV a), .eq (.slice (some ad) 2 cp), .eq (.pointer (some ⟨ad.block, ad.off + 3, none⟩)), .eq (valV b), .eq (.int .i64 (cmpV a b)), .eq (.bool (holdsF .ne (cmpV a b))), .eq (valV (truthV (holdsF .ne (cmpV a b))))]) 10 (by kernel_rfl) (by kernel_rfl) rfl rfl rfl ?_ ?_
      · refine ⟨?_, ?_, ?_, ?_, ?_, ?_, ?_, ?_, ?_, ?_, trivial⟩
        · intro ac wc hs hd hz hf hw K hK
          have e0 : ac.eval (.tmp 0) = (.string (str [60, 62])) := hf 0 rfl
          clear hd hz hf hw
          simp only [Region.wanted, if_true, Oper.wp, execOp, resolve, List.map_toArray, List.map_cons, List.map_nil, Option.map_some, Option.map_none, e0]
          go_simp
          exact hK _ _ rfl (Same.refl _ _)
        · intro ac wc hs hd hz hf hw K hK
          have e0 : ac.eval (.tmp 1) = (.slice (some ad) 2 cp) := hf 1 rfl
          clear hd hz hf hw
          simp only [Region.wanted, if_true, Oper.wp, execOp, resolve, List.map_toArray, List.map_cons, List.map_nil, Option.map_some, Option.map_none, e0]
          go_simp
          exact hK _ _ rfl (Same.refl _ _)
        · intro ac wc hs hd hz hf hw K hK
          have e0 : ac.eval (.tmp 71) = (.slice (some ad) 2 cp) := hw 1 rfl
          clear hd hz hf hw
          simp only [Region.wanted, if_true, Oper.wp, execOp, resolve, List.map_toArray, List.map_cons, List.map_nil, Option.map_some, Option.map_none, e0]
          go_simp
          exact hK _ _ rfl (Same.refl _ _)
        · intro ac wc hs hd hz hf hw K hK
          have e0 : ac.eval (.tmp 72) = (.pointer (some ad)) := hw 2 rfl
          have m0 : wc.cell? ad = some (.int .i64 a.kind) := hs.cell (p := ad) trivial d0
          have m1 : wc.cell? ⟨ad.block, ad.off + 1, none⟩ = some (.int .i64 a.n) := hs.cell (p := ⟨ad.block, ad.off + 1, none⟩) trivial d1
          have m2 : wc.cell? ⟨ad.block, ad.off + 2, none⟩ = some (.string (str a.s)) := hs.cell (p := ⟨ad.block, ad.off + 2, none⟩) trivial d2
          clear hd hz hf hw
          simp only [Region.wanted, if_true, Oper.wp, execOp, resolve, List.map_toArray, List.map_cons, List.map_nil, Option.map_some, Option.map_none, e0]
          go_simp
          exact hK _ _ rfl (Same.refl _ _)
        · intro ac wc hs hd hz hf hw K hK
          have e0 : ac.eval (.tmp 1) = (.slice (some ad) 2 cp) := hf 1 rfl
          clear hd hz hf hw
          simp only [Region.wanted, if_true, Oper.wp, execOp, resolve, List.map_toArray, List.map_cons, List.map_nil, Option.map_some, Option.map_none, e0]
          go_simp
          exact hK _ _ rfl (Same.refl _ _)
        · intro ac wc hs hd hz hf hw K hK
          have e0 : ac.eval (.tmp 74) = (.slice (some ad) 2 cp) := hw 4 rfl
          clear hd hz hf hw
          simp only [Region.wanted, if_true, Oper.wp, execOp, resolve, List.map_toArray, List.map_cons, List.map_nil, Option.map_some, Option.map_none, e0]
          go_simp
          exact hK _ _ rfl (Same.refl _ _)
        · intro ac wc hs hd hz hf hw K hK
          have e0 : ac.eval (.tmp 75) = (.pointer (some ⟨ad.block, ad.off + 3, none⟩)) := hw 5 rfl
          have m0 : wc.cell? ⟨ad.block, ad.off + 3, none⟩ = some (.int .i64 b.kind) := hs.cell (p := ⟨ad.block, ad.off + 3, none⟩) trivial b0
          have m1 : wc.cell? ⟨ad.block, ad.off + 4, none⟩ = some (.int .i64 b.n) := hs.cell (p := ⟨ad.block, ad.off + 4, none⟩) trivial b1
          have m2 : wc.cell? ⟨ad.block, ad.off + 5, none⟩ = some (.string (str b.s)) := hs.cell (p := ⟨ad.block, ad.off + 5, none⟩) trivial b2
          clear hd hz hf hw
          simp only [Region.wanted, if_true, Oper.wp, execOp, resolve, List.map_toArray, List.map_cons, List.map_nil, Option.map_some, Option.map_none, e0]
          go_simp
          exact hK _ _ rfl (Same.refl _ _)
        · intro ac wc hs hd hz hf hw K hK
          have e0 : ac.eval (.tmp 73) = (valV a) := hw 3 rfl
          have e1 : ac.eval (.tmp 76) = (valV b) := hw 6 rfl
          clear hd hz hf hw
          simp only [Region.wanted, if_true, Oper.wp, execOp, resolve, List.map_toArray, List.map_cons, List.map_nil, Option.map_some, Option.map_none, e0, e1]
          go_simp
          refine (exCompare_any a b _).mono ?_
          rintro e wd ⟨rfl, hs2⟩
          exact hK _ _ rfl hs2
        · intro ac wc hs hd hz hf hw K hK
          have e0 : ac.eval (.tmp 70) = (.string (str [60, 62])) := hw 0 rfl
          have e1 : ac.eval (.tmp 77) = (.int .i64 (cmpV a b)) := hw 7 rfl
          clear hd hz hf hw
          simp only [Region.wanted, if_true, Oper.wp, execOp, resolve, List.map_toArray, List.map_cons, List.map_nil, Option.map_some, Option.map_none, e0, e1]
          go_simp
          refine (exholds_any [60, 62] (cmpV a b) _).mono ?_
          rintro e wd ⟨rfl, rfl⟩
          exact hK _ _ rfl (Same.refl _ _)
        · intro ac wc hs hd hz hf hw K hK
          have e0 : ac.eval (.tmp 78) = (.bool (holdsF .ne (cmpV a b))) := hw 8 rfl
          clear hd hz hf hw
          simp only [Region.wanted, if_true, Oper.wp, execOp, resolve, List.map_toArray, List.map_cons, List.map_nil, Option.map_some, Option.map_none, e0]
          go_simp
          refine (extruth_any _ _).mono ?_
          rintro e wd ⟨rfl, hs2⟩
          exact hK _ _ rfl hs2
      · intro vs wR hvl hvp hsR
        rcases vs with _ | ⟨z0, _ | ⟨z1, _ | ⟨z2, _ | ⟨z3, _ | ⟨z4, _ | ⟨z5, _ | ⟨z6, _ | ⟨z7, _ | ⟨z8, _ | ⟨z9, _ | ⟨zz, zr⟩⟩⟩⟩⟩⟩⟩⟩⟩⟩⟩
        rotate_right 1
        · simp at hvl
        · simp at hvl
        · simp at hvl
        · simp at hvl
        · simp at hvl
        · simp at hvl
        · simp at hvl
        · simp at hvl
        · simp at hvl
        · simp at hvl
        · simp at hvl
        · obtain rfl : z0 = (.string (str [60, 62])) := hvp 0 (by omega)
          obtain rfl : z1 = (.slice (some ad) 2 cp) := hvp 1 (by omega)
          obtain rfl : z2 = (.pointer (some ad)) := hvp 2 (by omega)
          obtain rfl : z3 = (valV a) := hvp 3 (by omega)
          obtain rfl : z4 = (.slice (some ad) 2 cp) := hvp 4 (by omega)
          obtain rfl : z5 = (.pointer (some ⟨ad.block, ad.off + 3, none⟩)) := hvp 5 (by omega)
          obtain rfl : z6 = (valV b) := hvp 6 (by omega)
          obtain rfl : z7 = (.int .i64 (cmpV a b)) := hvp 7 (by omega)
          obtain rfl : z8 = (.bool (holdsF .ne (cmpV a b))) := hvp 8 (by omega)
          obtain rfl : z9 = (valV (truthV (holdsF .ne (cmpV a b)))) := hvp 9 (by omega)
          clear hvl hvp
          simp only [putAll, Act.put, List.setIfInBounds_toArray, List.set_cons_succ, List.set_cons_zero, List.take_succ_cons, List.take_zero, List.drop_succ_cons, List.drop_zero, List.eraseIdx_cons_succ, List.eraseIdx_cons_zero]
          have hSz := hsR
          clear hsR
          have hr3 := Hr.out.keep hSz trivial
          have r0 : wR.cell? ⟨w.heap.size, 0, none⟩ = some (.int .i64 0) := hr3.cell 0
          have r1 : wR.cell? ⟨w.heap.size, 1, none⟩ = some (.int .i64 0) := hr3.cell 1
          have r2 : wR.cell? ⟨w.heap.size, 2, none⟩ = some (.string (str [])) := hr3.cell 2
          have f0 : wR.frozen? ⟨w.heap.size, 0, none⟩ = false := hr3.frozen 0
          have f1 : wR.frozen? ⟨w.heap.size, 1, none⟩ = false := hr3.frozen 1
          have f2 : wR.frozen? ⟨w.heap.size, 2, none⟩ = false := hr3.frozen 2
          have y1 := hr3.lt
          have Hr3 := Lib.hid hr3
          have HSz := Lib.hid hSz
          clear hr3 hSz
          go_wp2
          refine bodyPost_ret (does_results (n := 0) (Hr3.out.set3 (truthV (holdsF .ne (cmpV a b)))) rfl rfl) rfl (ValEP.mk' HE.out ?_)
          exact (HS.out.trans HSz.out).set3 (fun h => by omega) _ _ _
set_option maxHeartbeats 4000000 in
theorem does_lt (A : Option Addr) (cp : Nat) (a b : Val) (S : Nat → Prop) (w : World) (hv : VaR w S (.slice A 2 cp) [a, b]) (hc : 2 ≤ cp) (hm : cp ≤ maxLen) : Calls Try.prog 38 #[.string (str [60]), .slice A 2 cp] w (ValEP (if a.kind = 0 ∨ b.kind = 0 then (.zero, 0) else (truthV (holdsF .lt (cmpV a b)), 0)) w) := by
  unfold maxLen at hm
  have Hv := Lib.hid hv
  have hr0 := Row.new w 23 (valCs .zero)
  have hS0 := (Same.refl (fun _ => True) w).alloc (.cells (valCs .zero).toArray 23)
  have Hr0 := Lib.hid hr0
  have HS0 := Lib.hid hS0
  obtain ⟨D, hD⟩ : ∃ D, (if a.kind = 0 ∨ b.kind = 0 then ((.zero, 0) : Val × Int) else (truthV (holdsF .lt (cmpV a b)), 0)) = D := ⟨_, rfl⟩
  rw [hD]
  have HN : Hid ((∃ x ∈ [a, b], x.kind = 0) → D = (.zero, 0)) := fun ⟨x, hx, h0⟩ => by
    rw [← hD, if_pos]
    simp only [List.mem_cons, List.not_mem_nil, or_false] at hx; rcases hx with rfl | rfl; exact .inl h0; exact .inr h0
  have HF : Hid ((∀ x ∈ [a, b], x.kind ≠ 0) → D = (truthV (holdsF .lt (cmpV a b)), 0)) := fun h => by
    rw [← hD, if_neg]
    rintro (h0 | h0); exact h a (by simp) h0; exact h b (by simp) h0
  clear hD hv hr0 hS0
  obtain ⟨l, hl⟩ : ∃ l, l = [a, b] := ⟨_, rfl⟩
  have hln : l.length = 2 := by rw [hl]; rfl
  have Hl := Lib.hid hl
  have Hln := Lib.hid hln
  clear hl hln
  go_enter Try.func38, Try.ntmps38
  go_wp2
  go_loopw [7, 34] (fun _ i wr => ∃ (j : Nat), j ≤ 2 ∧ i = .int .i64 j ∧ (∀ x ∈ l.take j, x.kind ≠ 0) ∧ Row wr w.heap.size 23 (valCs .zero) ∧ Same (fun _ => True) w wr) (fun _ i _ => 2 - (intOf i).toNat)
  case atStart => exact ⟨0, Nat.zero_le _, rfl, by simp, Hr0.out, HS0.out⟩
  case round =>
    obtain ⟨j, hj, rfl, hall, hr, hS⟩ := hrel
    have Hall := Lib.hid hall
    have Hr := Lib.hid hr
    have HS := Lib.hid hS
    clear hall
    by_cases hlt : j < 2
    · have hjl : j < l.length := by rw [Hln.out]; exact hlt
      have hvj : VaR wr S (.slice A 2 cp) l := by rw [Hl.out]; exact RowR.keepAll Hv.out hS
      obtain ⟨ad, rfl, -, d0, d1, d2⟩ := VaR.cells hvj hjl
      have x1 : (0 : Int) ≤ (j : Int) := by omega
      have x2 : (j : Int) < 2 := by omega
      have htk : l.take (j + 1) = l.take j ++ [l[j]] := List.take_succ_eq_append_getElem hjl
      have hmem : l[j] ∈ l := List.getElem_mem hjl
      generalize l[j] = x at *
      have Htk := Lib.hid htk
      have Hmem := Lib.hid hmem
      have hx := Row.new wr 23 (valCs x)
      have hSx := (Same.refl (fun _ => True) wr).alloc (.cells (valCs x).toArray 23)
      have HSx := Lib.hid hSx
      have gn := fun W => exnull_any x W
      have hz := hr.lt
      clear hx hSx hr hS htk hmem hvj hjl
      by_cases h1 : x.kind = 0
      · have q1 : decide (x.kind = 0) = true := by simpa using h1
        rw [q1] at gn
        have H1 := Lib.hid h1
        clear h1 q1
        go_wp2_with (go_at_call 51; refine stopAt ?_)
        unfold Hid
        refine (gn _).mono ?_
        rintro e w3 ⟨rfl, hS3⟩
        have hS4 := HSx.out.trans hS3
        have hr3 := Hr.out.keep hS4 trivial
        have r0 : w3.cell? ⟨w.heap.size, 0, none⟩ = some (.int .i64 0) := hr3.cell 0
        have r1 : w3.cell? ⟨w.heap.size, 1, none⟩ = some (.int .i64 0) := hr3.cell 1
        have r2 : w3.cell? ⟨w.heap.size, 2, none⟩ = some (.string (str [])) := hr3.cell 2
        have f0 : w3.frozen? ⟨w.heap.size, 0, none⟩ = false := hr3.frozen 0
        have f1 : w3.frozen? ⟨w.heap.size, 1, none⟩ = false := hr3.frozen 1
        have f2 : w3.frozen? ⟨w.heap.size, 2, none⟩ = false := hr3.frozen 2
        have y1 := hr3.lt
        have Hr3 := Lib.hid hr3
        have HS4 := Lib.hid hS4
        clear hS4 hr3 hS3 hz
        go_wp2
        refine bodyPost_ret (does_results (n := 0) (Hr3.out.set3 .zero) rfl rfl) rfl (ValEP.mk' (HN.out ⟨x, by have := Hmem.out; rwa [Hl.out] at this, H1.out⟩) ?_)
        exact (HS.out.trans HS4.out).set3 (fun h => by omega) _ _ _
      · have q1 : decide (x.kind = 0) = false := by simpa using h1
        rw [q1] at gn
        have H1 := Lib.hid h1
        clear h1 q1
        go_wp2_with (go_at_call 51; refine stopAt ?_)
        unfold Hid
        refine (gn _).mono ?_
        rintro e w3 ⟨rfl, hS3⟩
        have HS3 := Lib.hid (HSx.out.trans hS3)
        clear hS3
        go_wp2
        go_roundw
        case rel =>
          refine ⟨j + 1, by omega, by go_num, fun y hy => ?_, Hr.out.keep HS3.out trivial, HS.out.trans HS3.out⟩
          rw [Htk.out] at hy
          rcases List.mem_append.1 hy with hy | hy
          · exact Hall.out y hy
          · simp only [List.mem_cons, List.not_mem_nil, or_false] at hy
            rw [hy]; exact H1.out
        case measure => simp [intOf]; omega
    · obtain rfl : j = 2 := by omega
      have hE : D = (truthV (holdsF .lt (cmpV a b)), 0) := HF.out fun x hx => Hall.out x (by rw [List.take_of_length_le (by rw [Hln.out]; omega), Hl.out]; exact hx)
      obtain ⟨ad, rfl, -, d0, d1, d2, b0, b1, b2⟩ := VaR.two (RowR.keepAll Hv.out hS)
      have HE := Lib.hid hE
      have z1 := hr.lt
      clear hE hr hS
      go_wp2
      refine wp_region_tail_lit (L := [.eq (.string (str [60])), .eq (.slice (some ad) 2 cp), .eq (.pointer (some ad)), .eq (valV a), .eq (.slice (some ad) 2 cp), .eq (.pointer (some ⟨ad.block, ad.off + 3, none⟩)), .eq (valV b), .eq (.int .i64 (cmpV a b)), .eq (.bool (holdsF .lt (cmpV a b))), .eq (valV (truthV (holdsF .lt (cmpV a b))))]) 10 (by kernel_rfl) (by kernel_rfl) rfl rfl rfl ?_ ?_
      · refine ⟨?_, ?_, ?_, ?_, ?_, ?_, ?_, ?_, ?_, ?_, trivial⟩
        · intro ac wc hs hd hz hf hw K hK
          have e0 : ac.eval (.tmp 0) = (.string (str [60])) := hf 0 rfl
          clear hd hz hf hw
          simp only [Region.wanted, if_true, Oper.wp, execOp, resolve, List.map_toArray, List.map_cons, List.map_nil, Option.map_some, Option.map_none, e0]
          go_simp
          exact hK _ _ rfl (Same.refl _ _)
        · intro ac wc hs hd hz hf hw K hK
          have e0 : ac.eval (.tmp 1) = (.slice (some ad) 2 cp) := hf 1 rfl
          clear hd hz hf hw
          simp only [Region.wanted, if_true, Oper.wp, execOp, resolve, List.map_toArray, List.map_cons, List.map_nil, Option.map_some, Option.map_none, e0]
          go_simp
          exact hK _ _ rfl (Same.refl _ _)
        · intro ac wc hs hd hz hf hw K hK
          have e0 : ac.eval (.tmp 71) = (.slice (some ad) 2 cp) := hw 1 rfl
          clear hd hz hf hw
          simp only [Region.wanted, if_true, Oper.wp, execOp, resolve, List.map_toArray, List.map_cons, List.map_nil, Option.map_some, Option.map_none, e0]
          go_simp
          exact hK _ _ rfl (Same.refl _ _)
        · intro ac wc hs hd hz hf hw K hK
          have e0 : ac.eval (.tmp 72) = (.pointer (some ad)) := hw 2 rfl
          have m0 : wc.cell? ad = some (.int .i64 a.kind) := hs.cell (p := ad) trivial d0
          have m1 : wc.cell? ⟨ad.block, ad.off + 1, none⟩ = some (.int .i64 a.n) := hs.cell (p := ⟨ad.block, ad.off + 1, none⟩) trivial d1
          have m2 : wc.cell? ⟨ad.block, ad.off + 2, none⟩ = some (.string (str a.s)) := hs.cell (p := ⟨ad.block, ad.off + 2, none⟩) trivial d2
          clear hd hz hf hw
          simp only [Region.wanted, if_true, Oper.wp, execOp, resolve, List.map_toArray, List.map_cons, List.map_nil, Option.map_some, Option.map_none, e0]
          go_simp
          exact hK _ _ rfl (Same.refl _ _)
        · intro ac wc hs hd hz hf hw K hK
          have e0 : ac.eval (.tmp 1) = (.slice (some ad) 2 cp) := hf 1 rfl
          clear hd hz hf hw
          simp only [Region.wanted, if_true, Oper.wp, execOp, resolve, List.map_toArray, List.map_cons, List.map_nil, Option.map_some, Option.map_none, e0]
          go_simp
          exact hK _ _ rfl (Same.refl _ _)
        · intro ac wc hs hd hz hf hw K hK
          have e0 : ac.eval (.tmp 74) = (.slice (some ad) 2 cp) := hw 4 rfl
          clear hd hz hf hw
          simp only [Region.wanted, if_true, Oper.wp, execOp, resolve, List.map_toArray, List.map_cons, List.map_nil, Option.map_some, Option.map_none, e0]
          go_simp
          exact hK _ _ rfl (Same.refl _ _)
        · intro ac wc hs hd hz hf hw K hK
          have e0 : ac.eval (.tmp 75) = (.pointer (some ⟨ad.block, ad.off + 3, none⟩)) := hw 5 rfl
          have m0 : wc.cell? ⟨ad.block, ad.off + 3, none⟩ = some (.int .i64 b.kind) := hs.cell (p := ⟨ad.block, ad.off + 3, none⟩) trivial b0
          have m1 : wc.cell? ⟨ad.block, ad.off + 4, none⟩ = some (.int .i64 b.n) := hs.cell (p := ⟨ad.block, ad.off + 4, none⟩) trivial b1
          have m2 : wc.cell? ⟨ad.block, ad.off + 5, none⟩ = some (.string (str b.s)) := hs.cell (p := ⟨ad.block, ad.off + 5, none⟩) trivial b2
          clear hd hz hf hw
          simp only [Region.wanted, if_true, Oper.wp, execOp, resolve, List.map_toArray, List.map_cons, List.map_nil, Option.map_some, Option.map_none, e0]
          go_simp
          exact hK _ _ rfl (Same.refl _ _)
        · intro ac wc hs hd hz hf hw K hK
          have e0 : ac.eval (.tmp 73) = (valV a) := hw 3 rfl
          have e1 : ac.eval (.tmp 76) = (valV b) := hw 6 rfl
          clear hd hz hf hw
          simp only [Region.wanted, if_true, Oper.wp, execOp, resolve, List.map_toArray, List.map_cons, List.map_nil, Option.map_some, Option.map_none, e0, e1]
          go_simp
          refine (exCompare_any a b _).mono ?_
          rintro e wd ⟨rfl, hs2⟩
          exact hK _ _ rfl hs2
        · intro ac wc hs hd hz hf hw K hK
          have e0 : ac.eval (.tmp 70) = (.string (str [60])) := hw 0 rfl
          have e1 : ac.eval (.tmp 77) = (.int .i64 (cmpV a b)) := hw 7 rfl
          clear hd hz hf hw
          simp only [Region.wanted, if_true, Oper.wp, execOp, resolve, List.map_toArray, List.map_cons, List.map_nil, Option.map_some, Option.map_none, e0, e1]
          go_simp
          refine (exholds_any [60] (cmpV a b) _).mono ?_
          rintro e wd ⟨rfl, rfl⟩
          exact hK _ _ rfl (Same.refl _ _)
        · intro ac wc hs hd hz hf hw K hK
          have e0 : ac.eval (.tmp 78) = (.bool (holdsF .lt (cmpV a b))) := hw 8 rfl
          clear hd hz hf hw
          simp only [Region.wanted, if_true, Oper.wp, execOp, resolve, List.map_toArray, List.map_cons, List.map_nil, Option.map_some, Option.map_none, e0]
          go_simp
          refine (extruth_any _ _).mono ?_
          rintro e wd ⟨rfl, hs2⟩
          exact hK _ _ rfl hs2
      · intro vs wR hvl hvp hsR
        rcases vs with _ | ⟨z0, _ | ⟨z1, _ | ⟨z2, _ | ⟨z3, _ | ⟨z4, _ | ⟨z5, _ | ⟨z6, _ | ⟨z7, _ | ⟨z8, _ | ⟨z9, _ | ⟨zz, zr⟩⟩⟩⟩⟩⟩⟩⟩⟩⟩⟩
        rotate_right 1
        · simp at hvl
        · simp at hvl
        · simp at hvl
        · simp at hvl
        · simp at hvl
        · simp at hvl
        · simp at hvl
        · simp at hvl
        · simp at hvl
        · simp at hvl
        · simp at hvl
        · obtain rfl : z0 = (.string (str [60])) := hvp 0 (by omega)
          obtain rfl : z1 = (.slice (some ad) 2 cp) := hvp 1 (by omega)
          obtain rfl : z2 = (.pointer (some ad)) := hvp 2 (by omega)
          obtain rfl : z3 = (valV a) := hvp 3 (by omega)
          obtain rfl : z4 = (.slice (some ad) 2 cp) := hvp 4 (by omega)
          obtain rfl : z5 = (.pointer (some ⟨ad.block, ad.off + 3, none⟩)) := hvp 5 (by omega)
          obtain rfl : z6 = (valV b) := hvp 6 (by omega)
          obtain rfl : z7 = (.int .i64 (cmpV a b)) := hvp 7 (by omega)
          obtain rfl : z8 = (.bool (holdsF .lt (cmpV a b))) := hvp 8 (by omega)
          obtain rfl : z9 = (valV (truthV (holdsF .lt (cmpV a b)))) := hvp 9 (by omega)
          clear hvl hvp
          simp only [putAll, Act.put, List.setIfInBounds_toArray, List.set_cons_succ, List.set_cons_zero, List.take_succ_cons, List.take_zero, List.drop_succ_cons, List.drop_zero, List.eraseIdx_cons_succ, List.eraseIdx_cons_zero]
          have hSz := hsR
          clear hsR
          have hr3 := Hr.out.keep hSz trivial
          have r0 : wR.cell? ⟨w.heap.size, 0, none⟩ = some (.int .i64 0) := hr3.cell 0
          have r1 : wR.cell? ⟨w.heap.size, 1, none⟩ = some (.int .i64 0) := hr3.cell 1
          have r2 : wR.cell? ⟨w.heap.size, 2, none⟩ = some (.string (str [])) := hr3.cell 2
          have f0 : wR.frozen? ⟨w.heap.size, 0, none⟩ = false := hr3.frozen 0
          have f1 : wR.frozen? ⟨w.heap.size, 1, none⟩ = false := hr3.frozen 1
          have f2 : wR.frozen? ⟨w.heap.size, 2, none⟩ = false := hr3.frozen 2
          have y1 := hr3.lt
          have Hr3 := Lib.hid hr3
          have HSz := Lib.hid hSz
          clear hr3 hSz
          go_wp2
          refine bodyPost_ret (does_results (n := 0) (Hr3.out.set3 (truthV (holdsF .lt (cmpV a b)))) rfl rfl) rfl (ValEP.mk' HE.out ?_)
          exact (HS.out.trans HSz.out).set3 (fun h => by omega) _ _ _
set_option maxHeartbeats 4000000 in
theorem does_le (A : Option Addr) (cp : Nat) (a b : Val) (S : Nat → Prop) (w : World) (hv : VaR w S (.slice A 2 cp) [a, b]) (hc : 2 ≤ cp) (hm : cp ≤ maxLen) : Calls Try.prog 38 #[.string (str [60, 61]), .slice A 2 cp] w (ValEP (if a.kind = 0 ∨ b.kind = 0 then (.zero, 0) else (truthV (holdsF .le (cmpV a b)), 0)) w) := by
  unfold maxLen at hm
  have Hv := Lib.hid hv
  have hr0 := Row.new w 23 (valCs .zero)
  have hS0 := (Same.refl (fun _ => True) w).alloc (.cells (valCs .zero).toArray 23)
  have Hr0 := Lib.hid hr0
  have HS0 := Lib.hid hS0
  obtain ⟨D, hD⟩ : ∃ D, (if a.kind = 0 ∨ b.kind = 0 then ((.zero, 0) : Val × Int) else (truthV (holdsF .le (cmpV a b)), 0)) = D := ⟨_, rfl⟩
  rw [hD]
  have HN : Hid ((∃ x ∈ [a, b], x.kind = 0) → D = (.zero, 0)) := fun ⟨x, hx, h0⟩ => by
    rw [← hD, if_pos]
    simp only [List.mem_cons, List.not_mem_nil, or_false] at hx; rcases hx with rfl | rfl; exact .inl h0; exact .inr h0
  have HF : Hid ((∀ x ∈ [a, b], x.kind ≠ 0) → D = (truthV (holdsF .le (cmpV a b)), 0)) := fun h => by
    rw [← hD, if_neg]
    rintro (h0 | h0); exact h a (by simp) h0; exact h b (by simp) h0
  clear hD hv hr0 hS0
  obtain ⟨l, hl⟩ : ∃ l, l = [a, b] := ⟨_, rfl⟩
  have hln : l.length = 2 := by rw [hl]; rfl
  have Hl := Lib.hid hl
  have Hln := Lib.hid hln
  clear hl hln
  go_enter Try.func38, Try.ntmps38
  go_wp2
  go_loopw [7, 34] (fun _ i wr => ∃ (j : Nat), j ≤ 2 ∧ i = .int .i64 j ∧ (∀ x ∈ l.take j, x.kind ≠ 0) ∧ Row wr w.heap.size 23 (valCs .zero) ∧ Same (fun _ => True) w wr) (fun _ i _ => 2 - (intOf i).toNat)
  case atStart => exact ⟨0, Nat.zero_le _, rfl, by simp, Hr0.out, HS0.out⟩
  case round =>
    obtain ⟨j, hj, rfl, hall, hr, hS⟩ := hrel
    have Hall := Lib.hid hall
    have Hr := Lib.hid hr
    have HS := Lib.hid hS
    clear hall
    by_cases hlt : j < 2
    · have hjl : j < l.length := by rw [Hln.out]; exact hlt
      have hvj : VaR wr S (.slice A 2 cp) l := by rw [Hl.out]; exact RowR.keepAll Hv.out hS
      obtain ⟨ad, rfl, -, d0, d1, d2⟩ := VaR.cells hvj hjl
      have x1 : (0 : Int) ≤ (j : Int) := by omega
      have x2 : (j : Int) < 2 := by omega
      have htk : l.take (j + 1) = l.take j ++ [l[j]] := List.take_succ_eq_append_getElem hjl
      have hmem : l[j] ∈ l := List.getElem_mem hjl
      generalize l[j] = x at *
      have Htk := Lib.hid htk
      have Hmem := Lib.hid hmem
      have hx := Row.new wr 23 (valCs x)
      have hSx := (Same.refl (fun _ => True) wr).alloc (.cells (valCs x).toArray 23)
      have HSx := Lib.hid hSx
      have gn := fun W => exnull_any x W
      have hz := hr.lt
      clear hx hSx hr hS htk hmem hvj hjl
      by_cases h1 : x.kind = 0
      · have q1 : decide (x.kind = 0) = true := by simpa using h1
        rw [q1] at gn
        have H1 := Lib.hid h1
        clear h1 q1
        go_wp2_with (go_at_call 51; refine stopAt ?_)
        unfold Hid
        refine (gn _).mono ?_
        rintro e w3 ⟨rfl, hS3⟩
        have hS4 := HSx.out.trans hS3
        have hr3 := Hr.out.keep hS4 trivial
        have r0 : w3.cell? ⟨w.heap.size, 0, none⟩ = some (.int .i64 0) := hr3.cell 0
        have r1 : w3.cell? ⟨w.heap.size, 1, none⟩ = some (.int .i64 0) := hr3.cell 1
        have r2 : w3.cell? ⟨w.heap.size, 2, none⟩ = some (.string (str [])) := hr3.cell 2
        have f0 : w3.frozen? ⟨w.heap.size, 0, none⟩ = false := hr3.frozen 0
        have f1 : w3.frozen? ⟨w.heap.size, 1, none⟩ = false := hr3.frozen 1
        have f2 : w3.frozen? ⟨w.heap.size, 2, none⟩ = false := hr3.frozen 2
        have y1 := hr3.lt
        have Hr3 := Lib.hid hr3
        have HS4 := Lib.hid hS4
        clear hS4 hr3 hS3 hz
        go_wp2
        refine bodyPost_ret (does_results (n := 0) (Hr3.out.set3 .zero) rfl rfl) rfl (ValEP.mk' (HN.out ⟨x, by have := Hmem.out; rwa [Hl.out] at this, H1.out⟩) ?_)
        exact (HS.out.trans HS4.out).set3 (fun h => by omega) _ _ _
      · have q1 : decide (x.kind = 0) = false := by simpa using h1
        rw [q1] at gn
        have H1 := Lib.hid h1
        clear h1 q1
        go_wp2_with (go_at_call 51; refine stopAt ?_)
        unfold Hid
        refine (gn _).mono ?_
        rintro e w3 ⟨rfl, hS3⟩
        have HS3 := Lib.hid (HSx.out.trans hS3)
        clear hS3
        go_wp2
        go_roundw
        case rel =>
          refine ⟨j + 1, by omega, by go_num, fun y hy => ?_, Hr.out.keep HS3.out trivial, HS.out.trans HS3.out⟩
          rw [Htk.out] at hy
          rcases List.mem_append.1 hy with hy | hy
          · exact Hall.out y hy
          · simp only [List.mem_cons, List.not_mem_nil, or_false] at hy
            rw [hy]; exact H1.out
        case measure => simp [intOf]; omega
    · obtain rfl : j = 2 := by omega
      have hE : D = (truthV (holdsF .le (cmpV a b)), 0) := HF.out fun x hx => Hall.out x (by rw [List.take_of_length_le (by rw [Hln.out]; omega), Hl.out]; exact hx)
      obtain ⟨ad, rfl, -, d0, d1, d2, b0, b1, b2⟩ := VaR.two (RowR.keepAll Hv.out hS)
      have HE := Lib.hid hE
      have z1 := hr.lt
      clear hE hr hS
      go_wp2
      refine wp_region_tail_lit (L := [.eq (.string (str [60, 61])), .eq (.slice (some ad) 2 cp), .eq (.pointer (some ad)), .eq (valV a), .eq (.slice (some ad) 2 cp), .eq (.pointer (some ⟨ad.block, ad.off + 3, none⟩)), .eq (valV b), .eq (.int .i64 (cmpV a b)), .eq (.bool (holdsF .le (cmpV a b))), .eq (valV (truthV (holdsF .le (cmpV a b))))]) 10 (by kernel_rfl) (by kernel_rfl) rfl rfl rfl ?_ ?_
      · refine ⟨?_, ?_, ?_, ?_, ?_, ?_, ?_, ?_, ?_, ?_, trivial⟩
        · intro ac wc hs hd hz hf hw K hK
          have e0 : ac.eval (.tmp 0) = (.string (str [60, 61])) := hf 0 rfl
          clear hd hz hf hw
          simp only [Region.wanted, if_true, Oper.wp, execOp, resolve, List.map_toArray, List.map_cons, List.map_nil, Option.map_some, Option.map_none, e0]
          go_simp
          exact hK _ _ rfl (Same.refl _ _)
        · intro ac wc hs hd hz hf hw K hK
          have e0 : ac.eval (.tmp 1) = (.slice (some ad) 2 cp) := hf 1 rfl
          clear hd hz hf hw
          simp only [Region.wanted, if_true, Oper.wp, execOp, resolve, List.map_toArray, List.map_cons, List.map_nil, Option.map_some, Option.map_none, e0]
          go_simp
          exact hK _ _ rfl (Same.refl _ _)
        · intro ac wc hs hd hz hf hw K hK
          have e0 : ac.eval (.tmp 71) = (.slice (some ad) 2 cp) := hw 1 rfl
          clear hd hz hf hw
          simp only [Region.wanted, if_true, Oper.wp, execOp, resolve, List.map_toArray, List.map_cons, List.map_nil, Option.map_some, Option.map_none, e0]
          go_simp
          exact hK _ _ rfl (Same.refl _ _)
        · intro ac wc hs hd hz hf hw K hK
          have e0 : ac.eval (.tmp 72) = (.pointer (some ad)) := hw 2 rfl
          have m0 : wc.cell? ad = some (.int .i64 a.kind) := hs.cell (p := ad) trivial d0
          have m1 : wc.cell? ⟨ad.block, ad.off + 1, none⟩ = some (.int .i64 a.n) := hs.cell (p := ⟨ad.block, ad.off + 1, none⟩) trivial d1
          have m2 : wc.cell? ⟨ad.block, ad.off + 2, none⟩ = some (.string (str a.s)) := hs.cell (p := ⟨ad.block, ad.off + 2, none⟩) trivial d2
          clear hd hz hf hw
          simp only [Region.wanted, if_true, Oper.wp, execOp, resolve, List.map_toArray, List.map_cons, List.map_nil, Option.map_some, Option.map_none, e0]
          go_simp
          exact hK _ _ rfl (Same.refl _ _)
        · intro ac wc hs hd hz hf hw K hK
          have e0 : ac.eval (.tmp 1) = (.slice (some ad) 2 cp) := hf 1 rfl
          clear hd hz hf hw
          simp only [Region.wanted, if_true, Oper.wp, execOp, resolve, List.map_toArray, List.map_cons, List.map_nil, Option.map_some, Option.map_none, e0]
          go_simp
          exact hK _ _ rfl (Same.refl _ _)
        · intro ac wc hs hd hz hf hw K hK
          have e0 : ac.eval (.tmp 74) = (.slice (some ad) 2 cp) := hw 4 rfl
          clear hd hz hf hw
          simp only [Region.wanted, if_true, Oper.wp, execOp, resolve, List.map_toArray, List.map_cons, List.map_nil, Option.map_some, Option.map_none, e0]
          go_simp
          exact hK _ _ rfl (Same.refl _ _)
        · intro ac wc hs hd hz hf hw K hK
          have e0 : ac.eval (.tmp 75) = (.pointer (some ⟨ad.block, ad.off + 3, none⟩)) := hw 5 rfl
          have m0 : wc.cell? ⟨ad.block, ad.off + 3, none⟩ = some (.int .i64 b.kind) := hs.cell (p := ⟨ad.block, ad.off + 3, none⟩) trivial b0
          have m1 : wc.cell? ⟨ad.block, ad.off + 4, none⟩ = some (.int .i64 b.n) := hs.cell (p := ⟨ad.block, ad.off + 4, none⟩) trivial b1
          have m2 : wc.cell? ⟨ad.block, ad.off + 5, none⟩ = some (.string (str b.s)) := hs.cell (p := ⟨ad.block, ad.off + 5, none⟩) trivial b2
          clear hd hz hf hw
          simp only [Region.wanted, if_true, Oper.wp, execOp, resolve, List.map_toArray, List.map_cons, List.map_nil, Option.map_some, Option.map_none, e0]
          go_simp
          exact hK _ _ rfl (Same.refl _ _)
        · intro ac wc hs hd hz hf hw K hK
          have e0 : ac.eval (.tmp 73) = (valV a) := hw 3 rfl
          have e1 : ac.eval (.tmp 76) = (valV b) := hw 6 rfl
          clear hd hz hf hw
          simp only [Region.wanted, if_true, Oper.wp, execOp, resolve, List.map_toArray, List.map_cons, List.map_nil, Option.map_some, Option.map_none, e0, e1]
          go_simp
          refine (exCompare_any a b _).mono ?_
          rintro e wd ⟨rfl, hs2⟩
          exact hK _ _ rfl hs2
        · intro ac wc hs hd hz hf hw K hK
          have e0 : ac.eval (.tmp 70) = (.string (str [60, 61])) := hw 0 rfl
          have e1 : ac.eval (.tmp 77) = (.int .i64 (cmpV a b)) := hw 7 rfl
          clear hd hz hf hw
          simp only [Region.wanted, if_true, Oper.wp, execOp, resolve, List.map_toArray, List.map_cons, List.map_nil, Option.map_some, Option.map_none, e0, e1]
          go_simp
          refine (exholds_any [60, 61] (cmpV a b) _).mono ?_
          rintro e wd ⟨rfl, rfl⟩
          exact hK _ _ rfl (Same.refl _ _)
        · intro ac wc hs hd hz hf hw K hK
          have e0 : ac.eval (.tmp 78) = (.bool (holdsF .le (cmpV a b))) := hw 8 rfl
          clear hd hz hf hw
          simp only [Region.wanted, if_true, Oper.wp, execOp, resolve, List.map_toArray, List.map_cons, List.map_nil, Option.map_some, Option.map_none, e0]
          go_simp
          refine (extruth_any _ _).mono ?_
          rintro e wd ⟨rfl, hs2⟩
          exact hK _ _ rfl hs2
      · intro vs wR hvl hvp hsR
        rcases vs with _ | ⟨z0, _ | ⟨z1, _ | ⟨z2, _ | ⟨z3, _ | ⟨z4, _ | ⟨z5, _ | ⟨z6, _ | ⟨z7, _ | ⟨z8, _ | ⟨z9, _ | ⟨zz, zr⟩⟩⟩⟩⟩⟩⟩⟩⟩⟩⟩
        rotate_right 1
        · simp at hvl
        · simp at hvl
        · simp at hvl
        · simp at hvl
        · simp at hvl
        · simp at hvl
        · simp at hvl
        · simp at hvl
        · simp at hvl
        · simp at hvl
        · simp at hvl
        · obtain rfl : z0 = (.string (str [60, 61])) := hvp 0 (by omega)
          obtain rfl : z1 = (.slice (some ad) 2 cp) := hvp 1 (by omega)
          obtain rfl : z2 = (.pointer (some ad)) := hvp 2 (by omega)
          obtain rfl : z3 = (valV a) := hvp 3 (by omega)
          obtain rfl : z4 = (.slice (some ad) 2 cp) := hvp 4 (by omega)
          obtain rfl : z5 = (.pointer (some ⟨ad.block, ad.off + 3, none⟩)) := hvp 5 (by omega)
          obtain rfl : z6 = (valV b) := hvp 6 (by omega)
          obtain rfl : z7 = (.int .i64 (cmpV a b)) := hvp 7 (by omega)
          obtain rfl : z8 = (.bool (holdsF .le (cmpV a b))) := hvp 8 (by omega)
          obtain rfl : z9 = (valV (truthV (holdsF .le (cmpV a b)))) := hvp 9 (by omega)
          clear hvl hvp
          simp only [putAll, Act.put, List.setIfInBounds_toArray, List.set_cons_succ, List.set_cons_zero, List.take_succ_cons, List.take_zero, List.drop_succ_cons, List.drop_zero, List.eraseIdx_cons_succ, List.eraseIdx_cons_zero]
          have hSz := hsR
          clear hsR
          have hr3 := Hr.out.keep hSz trivial
          have r0 : wR.cell? ⟨w.heap.size, 0, none⟩ = some (.int .i64 0) := hr3.cell 0
          have r1 : wR.cell? ⟨w.heap.size, 1, none⟩ = some (.int .i64 0) := hr3.cell 1
          have r2 : wR.cell? ⟨w.heap.size, 2, none⟩ = some (.string (str [])) := hr3.cell 2
          have f0 : wR.frozen? ⟨w.heap.size, 0, none⟩ = false := hr3.frozen 0
          have f1 : wR.frozen? ⟨w.heap.size, 1, none⟩ = false := hr3.frozen 1
          have f2 : wR.frozen? ⟨w.heap.size, 2, none⟩ = false := hr3.frozen 2
          have y1 := hr3.lt
          have Hr3 := Lib.hid hr3
          have HSz := Lib.hid hSz
          clear hr3 hSz
          go_wp2
          refine bodyPost_ret (does_results (n := 0) (Hr3.out.set3 (truthV (holdsF .le (cmpV a b)))) rfl rfl) rfl (ValEP.mk' HE.out ?_)
          exact (HS.out.trans HSz.out).set3 (fun h => by omega) _ _ _
set_option maxHeartbeats 4000000 in
theorem does_gt (A : Option Addr) (cp : Nat) (a b : Val) (S : Nat → Prop) (w : World) (hv : VaR w S (.slice A 2 cp) [a, b]) (hc : 2 ≤ cp) (hm : cp ≤ maxLen) : Calls Try.prog 38 #[.string (str [62]), .slice A 2 cp] w (ValEP (if a.kind = 0 ∨ b.kind = 0 then (.zero, 0) else (truthV (holdsF .gt (cmpV a b)), 0)) w) := by
  unfold maxLen at hm
  have Hv := Lib.hid hv
  have hr0 := Row.new w 23 (valCs .zero)
  have hS0 := (Same.refl (fun _ => True) w).alloc (.cells (valCs .zero).toArray 23)
  have Hr0 := Lib.hid hr0
  have HS0 := Lib.hid hS0
  obtain ⟨D, hD⟩ : ∃ D, (if a.kind = 0 ∨ b.kind = 0 then ((.zero, 0) : Val × Int) else (truthV (holdsF .gt (cmpV a b)), 0)) = D := ⟨_, rfl⟩
  rw [hD]
  have HN : Hid ((∃ x ∈ [a, b], x.kind = 0) → D = (.zero, 0)) := fun ⟨x, hx, h0⟩ => by
    rw [← hD, if_pos]
    simp only [List.mem_cons, List.not_mem_nil, or_false] at hx; rcases hx with rfl | rfl; exact .inl h0; exact .inr h0
  have HF : Hid ((∀ x ∈ [a, b], x.kind ≠ 0) → D = (truthV (holdsF .gt (cmpV a b)), 0)) := fun h => by
    rw [← hD, if_neg]
    rintro (h0 | h0); exact h a (by simp) h0; exact h b (by simp) h0
  clear hD hv hr0 hS0
  obtain ⟨l, hl⟩ : ∃ l, l = [a, b] := ⟨_, rfl⟩
  have hln : l.length = 2 := by rw [hl]; rfl
  have Hl := Lib.hid hl
  have Hln := Lib.hid hln
  clear hl hln
  go_enter Try.func38, Try.ntmps38
  go_wp2
  go_loopw [7, 34] (fun _ i wr => ∃ (j : Nat), j ≤ 2 ∧ i = .int .i64 j ∧ (∀ x ∈ l.take j, x.kind ≠ 0) ∧ Row wr w.heap.size 23 (valCs .zero) ∧ Same (fun _ => True) w wr) (fun _ i _ => 2 - (intOf i).toNat)
  case atStart => exact ⟨0, Nat.zero_le _, rfl, by simp, Hr0.out, HS0.out⟩
  case round =>
    obtain ⟨j, hj, rfl, hall, hr, hS⟩ := hrel
    have Hall := Lib.hid hall
    have Hr := Lib.hid hr
    have HS := Lib.hid hS
    clear hall
    by_cases hlt : j < 2
    · have hjl : j < l.length := by rw [Hln.out]; exact hlt
      have hvj : VaR wr S (.slice A 2 cp) l := by rw [Hl.out]; exact RowR.keepAll Hv.out hS
      obtain ⟨ad, rfl, -, d0, d1, d2⟩ := VaR.cells hvj hjl
      have x1 : (0 : Int) ≤ (j : Int) := by omega
      have x2 : (j : Int) < 2 := by omega
      have htk : l.take (j + 1) = l.take j ++ [l[j]] := List.take_succ_eq_append_getElem hjl
      have hmem : l[j] ∈ l := List.getElem_mem hjl
      generalize l[j] = x at *
      have Htk := Lib.hid htk
      have Hmem := Lib.hid hmem
      have hx := Row.new wr 23 (valCs x)
      have hSx := (Same.refl (fun _ => True) wr).alloc (.cells (valCs x).toArray 23)
      have HSx := Lib.hid hSx
      have gn := fun W => exnull_any x W
      have hz := hr.lt
      clear hx hSx hr hS htk hmem hvj hjl
      by_cases h1 : x.kind = 0
      · have q1 : decide (x.kind = 0) = true := by simpa using h1
        rw [q1] at gn
        have H1 := Lib.hid h1
        clear h1 q1
        go_wp2_with (go_at_call 51; refine stopAt ?_)
        unfold Hid
        refine (gn _).mono ?_
        rintro e w3 ⟨rfl, hS3⟩
        have hS4 := HSx.out.trans hS3
        have hr3 := Hr.out.keep hS4 trivial
        have r0 : w3.cell? ⟨w.heap.size, 0, none⟩ = some (.int .i64 0) := hr3.cell 0
        have r1 : w3.cell? ⟨w.heap.size, 1, none⟩ = some (.int .i64 0) := hr3.cell 1
        have r2 : w3.cell? ⟨w.heap.size, 2, none⟩ = some (.string (str [])) := hr3.cell 2
        have f0 : w3.frozen? ⟨w.heap.size, 0, none⟩ = false := hr3.frozen 0
        have f1 : w3.frozen? ⟨w.heap.size, 1, none⟩ = false := hr3.frozen 1
        have f2 : w3.frozen? ⟨w.heap.size, 2, none⟩ = false := hr3.frozen 2
        have y1 := hr3.lt
        have Hr3 := Lib.hid hr3
        have HS4 := Lib.hid hS4
        clear hS4 hr3 hS3 hz
        go_wp2
        refine bodyPost_ret (does_results (n := 0) (Hr3.out.set3 .zero) rfl rfl) rfl (ValEP.mk' (HN.out ⟨x, by have := Hmem.out; rwa [Hl.out] at this, H1.out⟩) ?_)
        exact (HS.out.trans HS4.out).set3 (fun h => by omega) _ _ _
      · have q1 : decide (x.kind = 0) = false := by simpa using h1
        rw [q1] at gn
        have H1 := Lib.hid h1
        clear h1 q1
        go_wp2_with (go_at_call 51; refine stopAt ?_)
        unfold Hid
        refine (gn _).mono ?_
        rintro e w3 ⟨rfl, hS3⟩
        have HS3 := Lib.hid (HSx.out.trans hS3)
        clear hS3
        go_wp2
        go_roundw
        case rel =>
          refine ⟨j + 1, by omega, by go_num, fun y hy => ?_, Hr.out.keep HS3.out trivial, HS.out.trans HS3.out⟩
          rw [Htk.out] at hy
          rcases List.mem_append.1 hy with hy | hy
          · exact Hall.out y hy
          · simp only [List.mem_cons, List.not_mem_nil, or_false] at hy
            rw [hy]; exact H1.out
        case measure => simp [intOf]; omega
    · obtain rfl : j = 2 := by omega
      have hE : D = (truthV (holdsF .gt (cmpV a b)), 0) := HF.out fun x hx => Hall.out x (by rw [List.take_of_length_le (by rw [Hln.out]; omega), Hl.out]; exact hx)
      obtain ⟨ad, rfl, -, d0, d1, d2, b0, b1, b2⟩ := VaR.two (RowR.keepAll Hv.out hS)
      have HE := Lib.hid hE
      have z1 := hr.lt
      clear hE hr hS
      go_wp2
      refine wp_region_tail_lit (L := [.eq (.string (str [62])), .eq (.slice (some ad) 2 cp), .eq (.pointer (some ad)), .eq (valV a), .eq (.slice (some ad) 2 cp), .eq (.pointer (some ⟨ad.block, ad.off + 3, none⟩)), .eq (valV b), .eq (.int .i64 (cmpV a b)), .eq (.bool (holdsF .gt (cmpV a b))), .eq (valV (truthV (holdsF .gt (cmpV a b))))]) 10 (by kernel_rfl) (by kernel_rfl) rfl rfl rfl ?_ ?_
      · refine ⟨?_, ?_, ?_, ?_, ?_, ?_, ?_, ?_, ?_, ?_, trivial⟩
        · intro ac wc hs hd hz hf hw K hK
          have e0 : ac.eval (.tmp 0) = (.string (str [62])) := hf 0 rfl
          clear hd hz hf hw
          simp only [Region.wanted, if_true, Oper.wp, execOp, resolve, List.map_toArray, List.map_cons, List.map_nil, Option.map_some, Option.map_none, e0]
          go_simp
          exact hK _ _ rfl (Same.refl _ _)
        · intro ac wc hs hd hz hf hw K hK
          have e0 : ac.eval (.tmp 1) = (.slice (some ad) 2 cp) := hf 1 rfl
          clear hd hz hf hw
          simp only [Region.wanted, if_true, Oper.wp, execOp, resolve, List.map_toArray, List.map_cons, List.map_nil, Option.map_some, Option.map_none, e0]
          go_simp
          exact hK _ _ rfl (Same.refl _ _)
        · intro ac wc hs hd hz hf hw K hK
          have e0 : ac.eval (.tmp 71) = (.slice (some ad) 2 cp) := hw 1 rfl
          clear hd hz hf hw
          simp only [Region.wanted, if_true, Oper.wp, execOp, resolve, List.map_toArray, List.map_cons, List.map_nil, Option.map_some, Option.map_none, e0]
          go_simp
          exact hK _ _ rfl (Same.refl _ _)
        · intro ac wc hs hd hz hf hw K hK
          have e0 : ac.eval (.tmp 72) = (.pointer (some ad)) := hw 2 rfl
          have m0 : wc.cell? ad = some (.int .i64 a.kind) := hs.cell (p := ad) trivial d0
          have m1 : wc.cell? ⟨ad.block, ad.off + 1, none⟩ = some (.int .i64 a.n) := hs.cell (p := ⟨ad.block, ad.off + 1, none⟩) trivial d1
          have m2 : wc.cell? ⟨ad.block, ad.off + 2, none⟩ = some (.string (str a.s)) := hs.cell (p := ⟨ad.block, ad.off + 2, none⟩) trivial d2
          clear hd hz hf hw
          simp only [Region.wanted, if_true, Oper.wp, execOp, resolve, List.map_toArray, List.map_cons, List.map_nil, Option.map_some, Option.map_none, e0]
          go_simp
          exact hK _ _ rfl (Same.refl _ _)
        · intro ac wc hs hd hz hf hw K hK
          have e0 : ac.eval (.tmp 1) = (.slice (some ad) 2 cp) := hf 1 rfl
          clear hd hz hf hw
          simp only [Region.wanted, if_true, Oper.wp, execOp, resolve, List.map_toArray, List.map_cons, List.map_nil, Option.map_some, Option.map_none, e0]
          go_simp
          exact hK _ _ rfl (Same.refl _ _)
        · intro ac wc hs hd hz hf hw K hK
          have e0 : ac.eval (.tmp 74) = (.slice (some ad) 2 cp) := hw 4 rfl
          clear hd hz hf hw
          simp only [Region.wanted, if_true, Oper.wp, execOp, resolve, List.map_toArray, List.map_cons, List.map_nil, Option.map_some, Option.map_none, e0]
          go_simp
          exact hK _ _ rfl (Same.refl _ _)
        · intro ac wc hs hd hz hf hw K hK
          have e0 : ac.eval (.tmp 75) = (.pointer (some ⟨ad.block, ad.off + 3, none⟩)) := hw 5 rfl
          have m0 : wc.cell? ⟨ad.block, ad.off + 3, none⟩ = some (.int .i64 b.kind) := hs.cell (p := ⟨ad.block, ad.off + 3, none⟩) trivial b0
          have m1 : wc.cell? ⟨ad.block, ad.off + 4, none⟩ = some (.int .i64 b.n) := hs.cell (p := ⟨ad.block, ad.off + 4, none⟩) trivial b1
          have m2 : wc.cell? ⟨ad.block, ad.off + 5, none⟩ = some (.string (str b.s)) := hs.cell (p := ⟨ad.block, ad.off + 5, none⟩) trivial b2
          clear hd hz hf hw
          simp only [Region.wanted, if_true, Oper.wp, execOp, resolve, List.map_toArray, List.map_cons, List.map_nil, Option.map_some, Option.map_none, e0]
          go_simp
          exact hK _ _ rfl (Same.refl _ _)
        · intro ac wc hs hd hz hf hw K hK
          have e0 : ac.eval (.tmp 73) = (valV a) := hw 3 rfl
          have e1 : ac.eval (.tmp 76) = (valV b) := hw 6 rfl
          clear hd hz hf hw
          simp only [Region.wanted, if_true, Oper.wp, execOp, resolve, List.map_toArray, List.map_cons, List.map_nil, Option.map_some, Option.map_none, e0, e1]
          go_simp
          refine (exCompare_any a b _).mono ?_
          rintro e wd ⟨rfl, hs2⟩
          exact hK _ _ rfl hs2
        · intro ac wc hs hd hz hf hw K hK
          have e0 : ac.eval (.tmp 70) = (.string (str [62])) := hw 0 rfl
          have e1 : ac.eval (.tmp 77) = (.int .i64 (cmpV a b)) := hw 7 rfl
          clear hd hz hf hw
          simp only [Region.wanted, if_true, Oper.wp, execOp, resolve, List.map_toArray, List.map_cons, List.map_nil, Option.map_some, Option.map_none, e0, e1]
          go_simp
          refine (exholds_any [62] (cmpV a b) _).mono ?_
          rintro e wd ⟨rfl, rfl⟩
          exact hK _ _ rfl (Same.refl _ _)
        · intro ac wc hs hd hz hf hw K hK
          have e0 : ac.eval (.tmp 78) = (.bool (holdsF .gt (cmpV a b))) := hw 8 rfl
          clear hd hz hf hw
          simp only [Region.wanted, if_true, Oper.wp, execOp, resolve, List.map_toArray, List.map_cons, List.map_nil, Option.map_some, Option.map_none, e0]
          go_simp
          refine (extruth_any _ _).mono ?_
          rintro e wd ⟨rfl, hs2⟩
          exact hK _ _ rfl hs2
      · intro vs wR hvl hvp hsR
        rcases vs with _ | ⟨z0, _ | ⟨z1, _ | ⟨z2, _ | ⟨z3, _ | ⟨z4, _ | ⟨z5, _ | ⟨z6, _ | ⟨z7, _ | ⟨z8, _ | ⟨z9, _ | ⟨zz, zr⟩⟩⟩⟩⟩⟩⟩⟩⟩⟩⟩
        rotate_right 1
        · simp at hvl
        · simp at hvl
        · simp at hvl
        · simp at hvl
        · simp at hvl
        · simp at hvl
        · simp at hvl
        · simp at hvl
        · simp at hvl
        · simp at hvl
        · simp at hvl
        · obtain rfl : z0 = (.string (str [62])) := hvp 0 (by omega)
          obtain rfl : z1 = (.slice (some ad) 2 cp) := hvp 1 (by omega)
          obtain rfl : z2 = (.pointer (some ad)) := hvp 2 (by omega)
          obtain rfl : z3 = (valV a) := hvp 3 (by omega)
          obtain rfl : z4 = (.slice (some ad) 2 cp) := hvp 4 (by omega)
          obtain rfl : z5 = (.pointer (some ⟨ad.block, ad.off + 3, none⟩)) := hvp 5 (by omega)
          obtain rfl : z6 = (valV b) := hvp 6 (by omega)
          obtain rfl : z7 = (.int .i64 (cmpV a b)) := hvp 7 (by omega)
          obtain rfl : z8 = (.bool (holdsF .gt (cmpV a b))) := hvp 8 (by omega)
          obtain rfl : z9 = (valV (truthV (holdsF .gt (cmpV a b)))) := hvp 9 (by omega)
          clear hvl hvp
          simp only [putAll, Act.put, List.setIfInBounds_toArray, List.set_cons_succ, List.set_cons_zero, List.take_succ_cons, List.take_zero, List.drop_succ_cons, List.drop_zero, List.eraseIdx_cons_succ, List.eraseIdx_cons_zero]
          have hSz := hsR
          clear hsR
          have hr3 := Hr.out.keep hSz trivial
          have r0 : wR.cell? ⟨w.heap.size, 0, none⟩ = some (.int .i64 0) := hr3.cell 0
          have r1 : wR.cell? ⟨w.heap.size, 1, none⟩ = some (.int .i64 0) := hr3.cell 1
          have r2 : wR.cell? ⟨w.heap.size, 2, none⟩ = some (.string (str [])) := hr3.cell 2
          have f0 : wR.frozen? ⟨w.heap.size, 0, none⟩ = false := hr3.frozen 0
          have f1 : wR.frozen? ⟨w.heap.size, 1, none⟩ = false := hr3.frozen 1
          have f2 : wR.frozen? ⟨w.heap.size, 2, none⟩ = false := hr3.frozen 2
          have y1 := hr3.lt
          have Hr3 := Lib.hid hr3
          have HSz := Lib.hid hSz
          clear hr3 hSz
          go_wp2
          refine bodyPost_ret (does_results (n := 0) (Hr3.out.set3 (truthV (holdsF .gt (cmpV a b)))) rfl rfl) rfl (ValEP.mk' HE.out ?_)
          exact (HS.out.trans HSz.out).set3 (fun h => by omega) _ _ _
set_option maxHeartbeats 4000000 in
theorem does_ge (A : Option Addr) (cp : Nat) (a b : Val) (S : Nat → Prop) (w : World) (hv : VaR w S (.slice A 2 cp) [a, b]) (hc : 2 ≤ cp) (hm : cp ≤ maxLen) : Calls Try.prog 38 #[.string (str [62, 61]), .slice A 2 cp] w (ValEP (if a.kind = 0 ∨ b.kind = 0 then (.zero, 0) else (truthV (holdsF .ge (cmpV a b)), 0)) w) := by
  unfold maxLen at hm
  have Hv := Lib.hid hv
  have hr0 := Row.new w 23 (valCs .zero)
  have hS0 := (Same.refl (fun _ => True) w).alloc (.cells (valCs .zero).toArray 23)
  have Hr0 := Lib.hid hr0
  have HS0 := Lib.hid hS0
  obtain ⟨D, hD⟩ : ∃ D, (if a.kind = 0 ∨ b.kind = 0 then ((.zero, 0) : Val × Int) else (truthV (holdsF .ge (cmpV a b)), 0)) = D := ⟨_, rfl⟩
  rw [hD]
  have HN : Hid ((∃ x ∈ [a, b], x.kind = 0) → D = (.zero, 0)) := fun ⟨x, hx, h0⟩ => by
    rw [← hD, if_pos]
    simp only [List.mem_cons, List.not_mem_nil, or_false] at hx; rcases hx with rfl | rfl; exact .inl h0; exact .inr h0
  have HF : Hid ((∀ x ∈ [a, b], x.kind ≠ 0) → D = (truthV (holdsF .ge (cmpV a b)), 0)) := fun h => by
    rw [← hD, if_neg]
    rintro (h0 | h0); exact h a (by simp) h0; exact h b (by simp) h0
  clear hD hv hr0 hS0
  obtain ⟨l, hl⟩ : ∃ l, l = [a, b] := ⟨_, rfl⟩
  have hln : l.length = 2 := by rw [hl]; rfl
  have Hl := Lib.hid hl
  have Hln := Lib.hid hln
  clear hl hln
  go_enter Try.func38, Try.ntmps38
  go_wp2
  go_loopw [7, 34] (fun _ i wr => ∃ (j : Nat), j ≤ 2 ∧ i = .int .i64 j ∧ (∀ x ∈ l.take j, x.kind ≠ 0) ∧ Row wr w.heap.size 23 (valCs .zero) ∧ Same (fun _ => True) w wr) (fun _ i _ => 2 - (intOf i).toNat)
  case atStart => exact ⟨0, Nat.zero_le _, rfl, by simp, Hr0.out, HS0.out⟩
  case round =>
    obtain ⟨j, hj, rfl, hall, hr, hS⟩ := hrel
    have Hall := Lib.hid hall
    have Hr := Lib.hid hr
    have HS := Lib.hid hS
    clear hall
    by_cases hlt : j < 2
    · have hjl : j < l.length := by rw [Hln.out]; exact hlt
      have hvj : VaR wr S (.slice A 2 cp) l := by rw [Hl.out]; exact RowR.keepAll Hv.out hS
      obtain ⟨ad, rfl, -, d0, d1, d2⟩ := VaR.cells hvj hjl
      have x1 : (0 : Int) ≤ (j : Int) := by omega
      have x2 : (j : Int) < 2 := by omega
      have htk : l.take (j + 1) = l.take j ++ [l[j]] := List.take_succ_eq_append_getElem hjl
      have hmem : l[j] ∈ l := List.getElem_mem hjl
      generalize l[j] = x at *
      have Htk := Lib.hid htk
      have Hmem := Lib.hid hmem
      have hx := Row.new wr 23 (valCs x)
      have hSx := (Same.refl (fun _ => True) wr).alloc (.cells (valCs x).toArray 23)
      have HSx := Lib.hid hSx
      have gn := fun W => exnull_any x W
      have hz := hr.lt
      clear hx hSx hr hS htk hmem hvj hjl
      by_cases h1 : x.kind = 0
      · have q1 : decide (x.kind = 0) = true := by simpa using h1
        rw [q1] at gn
        have H1 := Lib.hid h1
        clear h1 q1
        go_wp2_with (go_at_call 51; refine stopAt ?_)
        unfold Hid
        refine (gn _).mono ?_
        rintro e w3 ⟨rfl, hS3⟩
        have hS4 := HSx.out.trans hS3
        have hr3 := Hr.out.keep hS4 trivial
        have r0 : w3.cell? ⟨w.heap.size, 0, none⟩ = some (.int .i64 0) := hr3.cell 0
        have r1 : w3.cell? ⟨w.heap.size, 1, none⟩ = some (.int .i64 0) := hr3.cell 1
        have r2 : w3.cell? ⟨w.heap.size, 2, none⟩ = some (.string (str [])) := hr3.cell 2
        have f0 : w3.frozen? ⟨w.heap.size, 0, none⟩ = false := hr3.frozen 0
        have f1 : w3.frozen? ⟨w.heap.size, 1, none⟩ = false := hr3.frozen 1
        have f2 : w3.frozen? ⟨w.heap.size, 2, none⟩ = false := hr3.frozen 2
        have y1 := hr3.lt
        have Hr3 := Lib.hid hr3
        have HS4 := Lib.hid hS4
        clear hS4 hr3 hS3 hz
        go_wp2
        refine bodyPost_ret (does_results (n := 0) (Hr3.out.set3 .zero) rfl rfl) rfl (ValEP.mk' (HN.out ⟨x, by have := Hmem.out; rwa [Hl.out] at this, H1.out⟩) ?_)
        exact (HS.out.trans HS4.out).set3 (fun h => by omega) _ _ _
      · have q1 : decide (x.kind = 0) = false := by simpa using h1
        rw [q1] at gn
        have H1 := Lib.hid h1
        clear h1 q1
        go_wp2_with (go_at_call 51; refine stopAt ?_)
        unfold Hid
        refine (gn _).mono ?_
        rintro e w3 ⟨rfl, hS3⟩
        have HS3 := Lib.hid (HSx.out.trans hS3)
        clear hS3
        go_wp2
        go_roundw
        case rel =>
          refine ⟨j + 1, by omega, by go_num, fun y hy => ?_, Hr.out.keep HS3.out trivial, HS.out.trans HS3.out⟩
          rw [Htk.out] at hy
          rcases List.mem_append.1 hy with hy | hy
          · exact Hall.out y hy
          · simp only [List.mem_cons, List.not_mem_nil, or_false] at hy
            rw [hy]; exact H1.out
        case measure => simp [intOf]; omega
    · obtain rfl : j = 2 := by omega
      have hE : D = (truthV (holdsF .ge (cmpV a b)), 0) := HF.out fun x hx => Hall.out x (by rw [List.take_of_length_le (by rw [Hln.out]; omega), Hl.out]; exact hx)
      obtain ⟨ad, rfl, -, d0, d1, d2, b0, b1, b2⟩ := VaR.two (RowR.keepAll Hv.out hS)
      have HE := Lib.hid hE
      have z1 := hr.lt
      clear hE hr hS
      go_wp2
      refine wp_region_tail_lit (L := [.eq (.string (str [62, 61])), .eq (.slice (some ad) 2 cp), .eq (.pointer (some ad)), .eq (valV a), .eq (.slice (some ad) 2 cp), .eq (.pointer (some ⟨ad.block, ad.off + 3, none⟩)), .eq (valV b), .eq (.int .i64 (cmpV a b)), .eq (.bool (holdsF .ge (cmpV a b))), .eq (valV (truthV (holdsF .ge (cmpV a b))))]) 10 (by kernel_rfl) (by kernel_rfl) rfl rfl rfl ?_ ?_
      · refine ⟨?_, ?_, ?_, ?_, ?_, ?_, ?_, ?_, ?_, ?_, trivial⟩
        · intro ac wc hs hd hz hf hw K hK
          have e0 : ac.eval (.tmp 0) = (.string (str [62, 61])) := hf 0 rfl
          clear hd hz hf hw
          simp only [Region.wanted, if_true, Oper.wp, execOp, resolve, List.map_toArray, List.map_cons, List.map_nil, Option.map_some, Option.map_none, e0]
          go_simp
          exact hK _ _ rfl (Same.refl _ _)
        · intro ac wc hs hd hz hf hw K hK
          have e0 : ac.eval (.tmp 1) = (.slice (some ad) 2 cp) := hf 1 rfl
          clear hd hz hf hw
          simp only [Region.wanted, if_true, Oper.wp, execOp, resolve, List.map_toArray, List.map_cons, List.map_nil, Option.map_some, Option.map_none, e0]
          go_simp
          exact hK _ _ rfl (Same.refl _ _)
        · intro ac wc hs hd hz hf hw K hK
          have e0 : ac.eval (.tmp 71) = (.slice (some ad) 2 cp) := hw 1 rfl
          clear hd hz hf hw
          simp only [Region.wanted, if_true, Oper.wp, execOp, resolve, List.map_toArray, List.map_cons, List.map_nil, Option.map_some, Option.map_none, e0]
          go_simp
          exact hK _ _ rfl (Same.refl _ _)
        · intro ac wc hs hd hz hf hw K hK
          have e0 : ac.eval (.tmp 72) = (.pointer (some ad)) := hw 2 rfl
          have m0 : wc.cell? ad = some (.int .i64 a.kind) := hs.cell (p := ad) trivial d0
          have m1 : wc.cell? ⟨ad.block, ad.off + 1, none⟩ = some (.int .i64 a.n) := hs.cell (p := ⟨ad.block, ad.off + 1, none⟩) trivial d1
          have m2 : wc.cell? ⟨ad.block, ad.off + 2, none⟩ = some (.string (str a.s)) := hs.cell (p := ⟨ad.block, ad.off + 2, none⟩) trivial d2
          clear hd hz hf hw
          simp only [Region.wanted, if_true, Oper.wp, execOp, resolve, List.map_toArray, List.map_cons, List.map_nil, Option.map_some, Option.map_none, e0]
          go_simp
          exact hK _ _ rfl (Same.refl _ _)
        · intro ac wc hs hd hz hf hw K hK
          have e0 : ac.eval (.tmp 1) = (.slice (some ad) 2 cp) := hf 1 rfl
          clear hd hz hf hw
          simp only [Region.wanted, if_true, Oper.wp, execOp, resolve, List.map_toArray, List.map_cons, List.map_nil, Option.map_some, Option.map_none, e0]
          go_simp
          exact hK _ _ rfl (Same.refl _ _)
        · intro ac wc hs hd hz hf hw K hK
          have e0 : ac.eval (.tmp 74) = (.slice (some ad) 2 cp) := hw 4 rfl
          clear hd hz hf hw
          simp only [Region.wanted, if_true, Oper.wp, execOp, resolve, List.map_toArray, List.map_cons, List.map_nil, Option.map_some, Option.map_none, e0]
          go_simp
          exact hK _ _ rfl (Same.refl _ _)
        · intro ac wc hs hd hz hf hw K hK
          have e0 : ac.eval (.tmp 75) = (.pointer (some ⟨ad.block, ad.off + 3, none⟩)) := hw 5 rfl
          have m0 : wc.cell? ⟨ad.block, ad.off + 3, none⟩ = some (.int .i64 b.kind) := hs.cell (p := ⟨ad.block, ad.off + 3, none⟩) trivial b0
          have m1 : wc.cell? ⟨ad.block, ad.off + 4, none⟩ = some (.int .i64 b.n) := hs.cell (p := ⟨ad.block, ad.off + 4, none⟩) trivial b1
          have m2 : wc.cell? ⟨ad.block, ad.off + 5, none⟩ = some (.string (str b.s)) := hs.cell (p := ⟨ad.block, ad.off + 5, none⟩) trivial b2
          clear hd hz hf hw
          simp only [Region.wanted, if_true, Oper.wp, execOp, resolve, List.map_toArray, List.map_cons, List.map_nil, Option.map_some, Option.map_none, e0]
          go_simp
          exact hK _ _ rfl (Same.refl _ _)
        · intro ac wc hs hd hz hf hw K hK
          have e0 : ac.eval (.tmp 73) = (valV a) := hw 3 rfl
          have e1 : ac.eval (.tmp 76) = (valV b) := hw 6 rfl
          clear hd hz hf hw
          simp only [Region.wanted, if_true, Oper.wp, execOp, resolve, List.map_toArray, List.map_cons, List.map_nil, Option.map_some, Option.map_none, e0, e1]
          go_simp
          refine (exCompare_any a b _).mono ?_
          rintro e wd ⟨rfl, hs2⟩
          exact hK _ _ rfl hs2
        · intro ac wc hs hd hz hf hw K hK
          have e0 : ac.eval (.tmp 70) = (.string (str [62, 61])) := hw 0 rfl
          have e1 : ac.eval (.tmp 77) = (.int .i64 (cmpV a b)) := hw 7 rfl
          clear hd hz hf hw
          simp only [Region.wanted, if_true, Oper.wp, execOp, resolve, List.map_toArray, List.map_cons, List.map_nil, Option.map_some, Option.map_none, e0, e1]
          go_simp
          refine (exholds_any [62, 61] (cmpV a b) _).mono ?_
          rintro e wd ⟨rfl, rfl⟩
          exact hK _ _ rfl (Same.refl _ _)
        · intro ac wc hs hd hz hf hw K hK
          have e0 : ac.eval (.tmp 78) = (.bool (holdsF .ge (cmpV a b))) := hw 8 rfl
          clear hd hz hf hw
          simp only [Region.wanted, if_true, Oper.wp, execOp, resolve, List.map_toArray, List.map_cons, List.map_nil, Option.map_some, Option.map_none, e0]
          go_simp
          refine (extruth_any _ _).mono ?_
          rintro e wd ⟨rfl, hs2⟩
          exact hK _ _ rfl hs2
      · intro vs wR hvl hvp hsR
        rcases vs with _ | ⟨z0, _ | ⟨z1, _ | ⟨z2, _ | ⟨z3, _ | ⟨z4, _ | ⟨z5, _ | ⟨z6, _ | ⟨z7, _ | ⟨z8, _ | ⟨z9, _ | ⟨zz, zr⟩⟩⟩⟩⟩⟩⟩⟩⟩⟩⟩
        rotate_right 1
        · simp at hvl
        · simp at hvl
        · simp at hvl
        · simp at hvl
        · simp at hvl
        · simp at hvl
        · simp at hvl
        · simp at hvl
        · simp at hvl
        · simp at hvl
        · simp at hvl
        · obtain rfl : z0 = (.string (str [62, 61])) := hvp 0 (by omega)
          obtain rfl : z1 = (.slice (some ad) 2 cp) := hvp 1 (by omega)
          obtain rfl : z2 = (.pointer (some ad)) := hvp 2 (by omega)
          obtain rfl : z3 = (valV a) := hvp 3 (by omega)
          obtain rfl : z4 = (.slice (some ad) 2 cp) := hvp 4 (by omega)
          obtain rfl : z5 = (.pointer (some ⟨ad.block, ad.off + 3, none⟩)) := hvp 5 (by omega)
          obtain rfl : z6 = (valV b) := hvp 6 (by omega)
          obtain rfl : z7 = (.int .i64 (cmpV a b)) := hvp 7 (by omega)
          obtain rfl : z8 = (.bool (holdsF .ge (cmpV a b))) := hvp 8 (by omega)
          obtain rfl : z9 = (valV (truthV (holdsF .ge (cmpV a b)))) := hvp 9 (by omega)
          clear hvl hvp
          simp only [putAll, Act.put, List.setIfInBounds_toArray, List.set_cons_succ, List.set_cons_zero, List.take_succ_cons, List.take_zero, List.drop_succ_cons, List.drop_zero, List.eraseIdx_cons_succ, List.eraseIdx_cons_zero]
          have hSz := hsR
          clear hsR
          have hr3 := Hr.out.keep hSz trivial
          have r0 : wR.cell? ⟨w.heap.size, 0, none⟩ = some (.int .i64 0) := hr3.cell 0
          have r1 : wR.cell? ⟨w.heap.size, 1, none⟩ = some (.int .i64 0) := hr3.cell 1
          have r2 : wR.cell? ⟨w.heap.size, 2, none⟩ = some (.string (str [])) := hr3.cell 2
          have f0 : wR.frozen? ⟨w.heap.size, 0, none⟩ = false := hr3.frozen 0
          have f1 : wR.frozen? ⟨w.heap.size, 1, none⟩ = false := hr3.frozen 1
          have f2 : wR.frozen? ⟨w.heap.size, 2, none⟩ = false := hr3.frozen 2
          have y1 := hr3.lt
          have Hr3 := Lib.hid hr3
          have HSz := Lib.hid hSz
          clear hr3 hSz
          go_wp2
          refine bodyPost_ret (does_results (n := 0) (Hr3.out.set3 (truthV (holdsF .ge (cmpV a b)))) rfl rfl) rfl (ValEP.mk' HE.out ?_)
          exact (HS.out.trans HSz.out).set3 (fun h => by omega) _ _ _
set_option maxHeartbeats 4000000 in
theorem does_add (A : Option Addr) (cp : Nat) (a b : Val) (S : Nat → Prop) (w : World) (hv : VaR w S (.slice A 2 cp) [a, b]) (hc : 2 ≤ cp) (hm : cp ≤ maxLen) (ha : i64B a.n = true) (hb : i64B b.n = true) : Calls Try.prog 38 #[.string (str [43]), .slice A 2 cp] w (ValEP (if a.kind = 0 ∨ b.kind = 0 then (.zero, 0) else numF (reckF .add a.n b.n)) w) := by
  unfold maxLen at hm
  have Hv := Lib.hid hv
  have hr0 := Row.new w 23 (valCs .zero)
  have hS0 := (Same.refl (fun _ => True) w).alloc (.cells (valCs .zero).toArray 23)
  have Hr0 := Lib.hid hr0
  have HS0 := Lib.hid hS0
  obtain ⟨D, hD⟩ : ∃ D, (if a.kind = 0 ∨ b.kind = 0 then ((.zero, 0) : Val × Int) else numF (reckF .add a.n b.n)) = D := ⟨_, rfl⟩
  rw [hD]
  have HN : Hid ((∃ x ∈ [a, b], x.kind = 0) → D = (.zero, 0)) := fun ⟨x, hx, h0⟩ => by
    rw [← hD, if_pos]
    simp only [List.mem_cons, List.not_mem_nil, or_false] at hx; rcases hx with rfl | rfl; exact .inl h0; exact .inr h0
  have HF : Hid ((∀ x ∈ [a, b], x.kind ≠ 0) → D = numF (reckF .add a.n b.n)) := fun h => by
    rw [← hD, if_neg]
    rintro (h0 | h0); exact h a (by simp) h0; exact h b (by simp) h0
  clear hD hv hr0 hS0
  obtain ⟨l, hl⟩ : ∃ l, l = [a, b] := ⟨_, rfl⟩
  have hln : l.length = 2 := by rw [hl]; rfl
  have Hl := Lib.hid hl
  have Hln := Lib.hid hln
  clear hl hln
  have HA := Lib.hid ha
  have HB := Lib.hid hb
  clear ha hb
  go_enter Try.func38, Try.ntmps38
  go_wp2
  go_loopw [7, 34] (fun _ i wr => ∃ (j : Nat), j ≤ 2 ∧ i = .int .i64 j ∧ (∀ x ∈ l.take j, x.kind ≠ 0) ∧ Row wr w.heap.size 23 (valCs .zero) ∧ Same (fun _ => True) w wr) (fun _ i _ => 2 - (intOf i).toNat)
  case atStart => exact ⟨0, Nat.zero_le _, rfl, by simp, Hr0.out, HS0.out⟩
  case round =>
    obtain ⟨j, hj, rfl, hall, hr, hS⟩ := hrel
    have Hall := Lib.hid hall
    have Hr := Lib.hid hr
    have HS := Lib.hid hS
    clear hall
    by_cases hlt : j < 2
    · have hjl : j < l.length := by rw [Hln.out]; exact hlt
      have hvj : VaR wr S (.slice A 2 cp) l := by rw [Hl.out]; exact RowR.keepAll Hv.out hS
      obtain ⟨ad, rfl, -, d0, d1, d2⟩ := VaR.cells hvj hjl
      have x1 : (0 : Int) ≤ (j : Int) := by omega
      have x2 : (j : Int) < 2 := by omega
      have htk : l.take (j + 1) = l.take j ++ [l[j]] := List.take_succ_eq_append_getElem hjl
      have hmem : l[j] ∈ l := List.getElem_mem hjl
      generalize l[j] = x at *
      have Htk := Lib.hid htk
      have Hmem := Lib.hid hmem
      have hx := Row.new wr 23 (valCs x)
      have hSx := (Same.refl (fun _ => True) wr).alloc (.cells (valCs x).toArray 23)
      have HSx := Lib.hid hSx
      have gn := fun W => exnull_any x W
      have hz := hr.lt
      clear hx hSx hr hS htk hmem hvj hjl
      by_cases h1 : x.kind = 0
      · have q1 : decide (x.kind = 0) = true := by simpa using h1
        rw [q1] at gn
        have H1 := Lib.hid h1
        clear h1 q1
        go_wp2_with (go_at_call 51; refine stopAt ?_)
        unfold Hid
        refine (gn _).mono ?_
        rintro e w3 ⟨rfl, hS3⟩
        have hS4 := HSx.out.trans hS3
        have hr3 := Hr.out.keep hS4 trivial
        have r0 : w3.cell? ⟨w.heap.size, 0, none⟩ = some (.int .i64 0) := hr3.cell 0
        have r1 : w3.cell? ⟨w.heap.size, 1, none⟩ = some (.int .i64 0) := hr3.cell 1
        have r2 : w3.cell? ⟨w.heap.size, 2, none⟩ = some (.string (str [])) := hr3.cell 2
        have f0 : w3.frozen? ⟨w.heap.size, 0, none⟩ = false := hr3.frozen 0
        have f1 : w3.frozen? ⟨w.heap.size, 1, none⟩ = false := hr3.frozen 1
        have f2 : w3.frozen? ⟨w.heap.size, 2, none⟩ = false := hr3.frozen 2
        have y1 := hr3.lt
        have Hr3 := Lib.hid hr3
        have HS4 := Lib.hid hS4
        clear hS4 hr3 hS3 hz
        go_wp2
        refine bodyPost_ret (does_results (n := 0) (Hr3.out.set3 .zero) rfl rfl) rfl (ValEP.mk' (HN.out ⟨x, by have := Hmem.out; rwa [Hl.out] at this, H1.out⟩) ?_)
        exact (HS.out.trans HS4.out).set3 (fun h => by omega) _ _ _
      · have q1 : decide (x.kind = 0) = false := by simpa using h1
        rw [q1] at gn
        have H1 := Lib.hid h1
        clear h1 q1
        go_wp2_with (go_at_call 51; refine stopAt ?_)
        unfold Hid
        refine (gn _).mono ?_
        rintro e w3 ⟨rfl, hS3⟩
        have HS3 := Lib.hid (HSx.out.trans hS3)
        clear hS3
        go_wp2
        go_roundw
        case rel =>
          refine ⟨j + 1, by omega, by go_num, fun y hy => ?_, Hr.out.keep HS3.out trivial, HS.out.trans HS3.out⟩
          rw [Htk.out] at hy
          rcases List.mem_append.1 hy with hy | hy
          · exact Hall.out y hy
          · simp only [List.mem_cons, List.not_mem_nil, or_false] at hy
            rw [hy]; exact H1.out
        case measure => simp [intOf]; omega
    · obtain rfl : j = 2 := by omega
      have hE : D = numF (reckF .add a.n b.n) := HF.out fun x hx => Hall.out x (by rw [List.take_of_length_le (by rw [Hln.out]; omega), Hl.out]; exact hx)
      obtain ⟨ad, rfl, -, d0, d1, d2, b0, b1, b2⟩ := VaR.two (RowR.keepAll Hv.out hS)
      have HE := Lib.hid hE
      have z1 := hr.lt
      clear hE hr hS
      go_wp2
      refine wp_region_tail_lit (L := [.eq (.string (str [43])), .eq (.slice (some ad) 2 cp), .eq (.pointer (some ad)), .eq (.pointer (some ⟨ad.block, ad.off + 1, none⟩)), .eq (.int .i64 a.n), .eq (.slice (some ad) 2 cp), .eq (.pointer (some ⟨ad.block, ad.off + 3, none⟩)), .eq (.pointer (some ⟨ad.block, ad.off + 4, none⟩)), .eq (.int .i64 b.n), .eq (.tuple #[.int .i64 (reckF .add a.n b.n).1, .int .i64 (reckF .add a.n b.n).2]), .eq (.int .i64 (reckF .add a.n b.n).1), .eq (.int .i64 (reckF .add a.n b.n).2), .eq (.tuple #[valV (numF (reckF .add a.n b.n)).1, .int .i64 (numF (reckF .add a.n b.n)).2]), .eq (valV (numF (reckF .add a.n b.n)).1), .eq (.int .i64 (numF (reckF .add a.n b.n)).2)]) 15 (by kernel_rfl) (by kernel_rfl) rfl rfl rfl ?_ ?_
      · refine ⟨?_, ?_, ?_, ?_, ?_, ?_, ?_, ?_, ?_, ?_, ?_, ?_, ?_, ?_, ?_, trivial⟩
        · intro ac wc hs hd hz hf hw K hK
          have e0 : ac.eval (.tmp 0) = (.string (str [43])) := hf 0 rfl
          clear hd hz hf hw
          simp only [Region.wanted, if_true, Oper.wp, execOp, resolve, List.map_toArray, List.map_cons, List.map_nil, Option.map_some, Option.map_none, e0]
          go_simp
          exact hK _ _ rfl (Same.refl _ _)
        · intro ac wc hs hd hz hf hw K hK
          have e0 : ac.eval (.tmp 1) = (.slice (some ad) 2 cp) := hf 1 rfl
          clear hd hz hf hw
          simp only [Region.wanted, if_true, Oper.wp, execOp, resolve, List.map_toArray, List.map_cons, List.map_nil, Option.map_some, Option.map_none, e0]
          go_simp
          exact hK _ _ rfl (Same.refl _ _)
        · intro ac wc hs hd hz hf hw K hK
          have e0 : ac.eval (.tmp 81) = (.slice (some ad) 2 cp) := hw 1 rfl
          clear hd hz hf hw
          simp only [Region.wanted, if_true, Oper.wp, execOp, resolve, List.map_toArray, List.map_cons, List.map_nil, Option.map_some, Option.map_none, e0]
          go_simp
          exact hK _ _ rfl (Same.refl _ _)
        · intro ac wc hs hd hz hf hw K hK
          have e0 : ac.eval (.tmp 82) = (.pointer (some ad)) := hw 2 rfl
          clear hd hz hf hw
          simp only [Region.wanted, if_true, Oper.wp, execOp, resolve, List.map_toArray, List.map_cons, List.map_nil, Option.map_some, Option.map_none, e0]
          go_simp
          exact hK _ _ rfl (Same.refl _ _)
        · intro ac wc hs hd hz hf hw K hK
          have e0 : ac.eval (.tmp 83) = (.pointer (some ⟨ad.block, ad.off + 1, none⟩)) := hw 3 rfl
          have m0 : wc.cell? ⟨ad.block, ad.off + 1, none⟩ = some (.int .i64 a.n) := hs.cell (p := ⟨ad.block, ad.off + 1, none⟩) trivial d1
          clear hd hz hf hw
          simp only [Region.wanted, if_true, Oper.wp, execOp, resolve, List.map_toArray, List.map_cons, List.map_nil, Option.map_some, Option.map_none, e0]
          go_simp
          exact hK _ _ rfl (Same.refl _ _)
        · intro ac wc hs hd hz hf hw K hK
          have e0 : ac.eval (.tmp 1) = (.slice (some ad) 2 cp) := hf 1 rfl
          clear hd hz hf hw
          simp only [Region.wanted, if_true, Oper.wp, execOp, resolve, List.map_toArray, List.map_cons, List.map_nil, Option.map_some, Option.map_none, e0]
          go_simp
          exact hK _ _ rfl (Same.refl _ _)
        · intro ac wc hs hd hz hf hw K hK
          have e0 : ac.eval (.tmp 85) = (.slice (some ad) 2 cp) := hw 5 rfl
          clear hd hz hf hw
          simp only [Region.wanted, if_true, Oper.wp, execOp, resolve, List.map_toArray, List.map_cons, List.map_nil, Option.map_some, Option.map_none, e0]
          go_simp
          exact hK _ _ rfl (Same.refl _ _)
        · intro ac wc hs hd hz hf hw K hK
          have e0 : ac.eval (.tmp 86) = (.pointer (some ⟨ad.block, ad.off + 3, none⟩)) := hw 6 rfl
          clear hd hz hf hw
          simp only [Region.wanted, if_true, Oper.wp, execOp, resolve, List.map_toArray, List.map_cons, List.map_nil, Option.map_some, Option.map_none, e0]
          go_simp
          exact hK _ _ rfl (Same.refl _ _)
        · intro ac wc hs hd hz hf hw K hK
          have e0 : ac.eval (.tmp 87) = (.pointer (some ⟨ad.block, ad.off + 4, none⟩)) := hw 7 rfl
          have m0 : wc.cell? ⟨ad.block, ad.off + 4, none⟩ = some (.int .i64 b.n) := hs.cell (p := ⟨ad.block, ad.off + 4, none⟩) trivial b1
          clear hd hz hf hw
          simp only [Region.wanted, if_true, Oper.wp, execOp, resolve, List.map_toArray, List.map_cons, List.map_nil, Option.map_some, Option.map_none, e0]
          go_simp
          exact hK _ _ rfl (Same.refl _ _)
        · intro ac wc hs hd hz hf hw K hK
          have e0 : ac.eval (.tmp 80) = (.string (str [43])) := hw 0 rfl
          have e1 : ac.eval (.tmp 84) = (.int .i64 a.n) := hw 4 rfl
          have e2 : ac.eval (.tmp 88) = (.int .i64 b.n) := hw 8 rfl
          clear hd hz hf hw
          simp only [Region.wanted, if_true, Oper.wp, execOp, resolve, List.map_toArray, List.map_cons, List.map_nil, Option.map_some, Option.map_none, e0, e1, e2]
          go_simp
          refine (exreckon_any [43] a.n b.n HA.out HB.out _).mono ?_
          rintro e wd ⟨rfl, rfl⟩
          exact hK _ _ rfl (Same.refl _ _)
        · intro ac wc hs hd hz hf hw K hK
          have e0 : ac.eval (.tmp 89) = (.tuple #[.int .i64 (reckF .add a.n b.n).1, .int .i64 (reckF .add a.n b.n).2]) := hw 9 rfl
          clear hd hz hf hw
          simp only [Region.wanted, if_true, Oper.wp, execOp, resolve, List.map_toArray, List.map_cons, List.map_nil, Option.map_some, Option.map_none, e0]
          go_simp
          exact hK _ _ rfl (Same.refl _ _)
        · intro ac wc hs hd hz hf hw K hK
          have e0 : ac.eval (.tmp 89) = (.tuple #[.int .i64 (reckF .add a.n b.n).1, .int .i64 (reckF .add a.n b.n).2]) := hw 9 rfl
          clear hd hz hf hw
          simp only [Region.wanted, if_true, Oper.wp, execOp, resolve, List.map_toArray, List.map_cons, List.map_nil, Option.map_some, Option.map_none, e0]
          go_simp
          exact hK _ _ rfl (Same.refl _ _)
        · intro ac wc hs hd hz hf hw K hK
          have e0 : ac.eval (.tmp 90) = (.int .i64 (reckF .add a.n b.n).1) := hw 10 rfl
          have e1 : ac.eval (.tmp 91) = (.int .i64 (reckF .add a.n b.n).2) := hw 11 rfl
          clear hd hz hf hw
          simp only [Region.wanted, if_true, Oper.wp, execOp, resolve, List.map_toArray, List.map_cons, List.map_nil, Option.map_some, Option.map_none, e0, e1]
          go_simp
          refine (exnumber_any (reckF .add a.n b.n).1 (reckF .add a.n b.n).2 _).mono ?_
          rintro e wd ⟨rfl, hs2⟩
          exact hK _ _ rfl hs2
        · intro ac wc hs hd hz hf hw K hK
          have e0 : ac.eval (.tmp 92) = (.tuple #[valV (numF (reckF .add a.n b.n)).1, .int .i64 (numF (reckF .add a.n b.n)).2]) := hw 12 rfl
          clear hd hz hf hw
          simp only [Region.wanted, if_true, Oper.wp, execOp, resolve, List.map_toArray, List.map_cons, List.map_nil, Option.map_some, Option.map_none, e0]
          go_simp
          exact hK _ _ rfl (Same.refl _ _)
        · intro ac wc hs hd hz hf hw K hK
          have e0 : ac.eval (.tmp 92) = (.tuple #[valV (numF (reckF .add a.n b.n)).1, .int .i64 (numF (reckF .add a.n b.n)).2]) := hw 12 rfl
          clear hd hz hf hw
          simp only [Region.wanted, if_true, Oper.wp, execOp, resolve, List.map_toArray, List.map_cons, List.map_nil, Option.map_some, Option.map_none, e0]
          go_simp
          exact hK _ _ rfl (Same.refl _ _)
      · intro vs wR hvl hvp hsR
        rcases vs with _ | ⟨z0, _ | ⟨z1, _ | ⟨z2, _ | ⟨z3, _ | ⟨z4, _ | ⟨z5, _ | ⟨z6, _ | ⟨z7, _ | ⟨z8, _ | ⟨z9, _ | ⟨z10, _ | ⟨z11, _ | ⟨z12, _ | ⟨z13, _ | ⟨z14, _ | ⟨zz, zr⟩⟩⟩⟩⟩⟩⟩⟩⟩⟩⟩⟩⟩⟩⟩⟩
        rotate_right 1
        · simp at hvl
        · simp at hvl
        · simp at hvl
        · simp at hvl
        · simp at hvl
        · simp at hvl
        · simp at hvl
        · simp at hvl
        · simp at hvl
        · simp at hvl
        · simp at hvl
        · simp at hvl
        · simp at hvl
        · simp at hvl
        · simp at hvl
        · simp at hvl
        · obtain rfl : z0 = (.string (str [43])) := hvp 0 (by omega)
          obtain rfl : z1 = (.slice (some ad) 2 cp) := hvp 1 (by omega)
          obtain rfl : z2 = (.pointer (some ad)) := hvp 2 (by omega)
          obtain rfl : z3 = (.pointer (some ⟨ad.block, ad.off + 1, none⟩)) := hvp 3 (by omega)
          obtain rfl : z4 = (.int .i64 a.n) := hvp 4 (by omega)
          obtain rfl : z5 = (.slice (some ad) 2 cp) := hvp 5 (by omega)
          obtain rfl : z6 = (.pointer (some ⟨ad.block, ad.off + 3, none⟩)) := hvp 6 (by omega)
          obtain rfl : z7 = (.pointer (some ⟨ad.block, ad.off + 4, none⟩)) := hvp 7 (by omega)
          obtain rfl : z8 = (.int .i64 b.n) := hvp 8 (by omega)
          obtain rfl : z9 = (.tuple #[.int .i64 (reckF .add a.n b.n).1, .int .i64 (reckF .add a.n b.n).2]) := hvp 9 (by omega)
          obtain rfl : z10 = (.int .i64 (reckF .add a.n b.n).1) := hvp 10 (by omega)
          obtain rfl : z11 = (.int .i64 (reckF .add a.n b.n).2) := hvp 11 (by omega)
          obtain rfl : z12 = (.tuple #[valV (numF (reckF .add a.n b.n)).1, .int .i64 (numF (reckF .add a.n b.n)).2]) := hvp 12 (by omega)
          obtain rfl : z13 = (valV (numF (reckF .add a.n b.n)).1) := hvp 13 (by omega)
          obtain rfl : z14 = (.int .i64 (numF (reckF .add a.n b.n)).2) := hvp 14 (by omega)
          clear hvl hvp
          simp only [putAll, Act.put, List.setIfInBounds_toArray, List.set_cons_succ, List.set_cons_zero, List.take_succ_cons, List.take_zero, List.drop_succ_cons, List.drop_zero, List.eraseIdx_cons_succ, List.eraseIdx_cons_zero]
          have hSz := hsR
          clear hsR
          have hr3 := Hr.out.keep hSz trivial
          have r0 : wR.cell? ⟨w.heap.size, 0, none⟩ = some (.int .i64 0) := hr3.cell 0
          have r1 : wR.cell? ⟨w.heap.size, 1, none⟩ = some (.int .i64 0) := hr3.cell 1
          have r2 : wR.cell? ⟨w.heap.size, 2, none⟩ = some (.string (str [])) := hr3.cell 2
          have f0 : wR.frozen? ⟨w.heap.size, 0, none⟩ = false := hr3.frozen 0
          have f1 : wR.frozen? ⟨w.heap.size, 1, none⟩ = false := hr3.frozen 1
          have f2 : wR.frozen? ⟨w.heap.size, 2, none⟩ = false := hr3.frozen 2
          have y1 := hr3.lt
          have Hr3 := Lib.hid hr3
          have HSz := Lib.hid hSz
          clear hr3 hSz
          go_wp2
          refine bodyPost_ret (does_results (n := (numF (reckF .add a.n b.n)).2) (Hr3.out.set3 (numF (reckF .add a.n b.n)).1) rfl rfl) rfl (ValEP.mk' HE.out ?_)
          exact (HS.out.trans HSz.out).set3 (fun h => by omega) _ _ _
set_option maxHeartbeats 4000000 in
theorem does_sub (A : Option Addr) (cp : Nat) (a b : Val) (S : Nat → Prop) (w : World) (hv : VaR w S (.slice A 2 cp) [a, b]) (hc : 2 ≤ cp) (hm : cp ≤ maxLen) (ha : i64B a.n = true) (hb : i64B b.n = true) : Calls Try.prog 38 #[.string (str [45]), .slice A 2 cp] w (ValEP (if a.kind = 0 ∨ b.kind = 0 then (.zero, 0) else numF (reckF .sub a.n b.n)) w) := by
  unfold maxLen at hm
  have Hv := Lib.hid hv
  have hr0 := Row.new w 23 (valCs .zero)
  have hS0 := (Same.refl (fun _ => True) w).alloc (.cells (valCs .zero).toArray 23)
  have Hr0 := Lib.hid hr0
  have HS0 := Lib.hid hS0
  obtain ⟨D, hD⟩ : ∃ D, (if a.kind = 0 ∨ b.kind = 0 then ((.zero, 0) : Val × Int) else numF (reckF .sub a.n b.n)) = D := ⟨_, rfl⟩
  rw [hD]
  have HN : Hid ((∃ x ∈ [a, b], x.kind = 0) → D = (.zero, 0)) := fun ⟨x, hx, h0⟩ => by
    rw [← hD, if_pos]
    simp only [List.mem_cons, List.not_mem_nil, or_false] at hx; rcases hx with rfl | rfl; exact .inl h0; exact .inr h0
  have HF : Hid ((∀ x ∈ [a, b], x.kind ≠ 0) → D = numF (reckF .sub a.n b.n)) := fun h => by
    rw [← hD, if_neg]
    rintro (h0 | h0); exact h a (by simp) h0; exact h b (by simp) h0
  clear hD hv hr0 hS0
  obtain ⟨l, hl⟩ : ∃ l, l = [a, b] := ⟨_, rfl⟩
  have hln : l.length = 2 := by rw [hl]; rfl
  have Hl := Lib.hid hl
  have Hln := Lib.hid hln
  clear hl hln
  have HA := Lib.hid ha
  have HB := Lib.hid hb
  clear ha hb
  go_enter Try.func38, Try.ntmps38
  go_wp2
  go_loopw [7, 34] (fun _ i wr => ∃ (j : Nat), j ≤ 2 ∧ i = .int .i64 j ∧ (∀ x ∈ l.take j, x.kind ≠ 0) ∧ Row wr w.heap.size 23 (valCs .zero) ∧ Same (fun _ => True) w wr) (fun _ i _ => 2 - (intOf i).toNat)
  case atStart => exact ⟨0, Nat.zero_le _, rfl, by simp, Hr0.out, HS0.out⟩
  case round =>
    obtain ⟨j, hj, rfl, hall, hr, hS⟩ := hrel
    have Hall := Lib.hid hall
    have Hr := Lib.hid hr
    have HS := Lib.hid hS
    clear hall
    by_cases hlt : j < 2
    · have hjl : j < l.length := by rw [Hln.out]; exact hlt
      have hvj : VaR wr S (.slice A 2 cp) l := by rw [Hl.out]; exact RowR.keepAll Hv.out hS
      obtain ⟨ad, rfl, -, d0, d1, d2⟩ := VaR.cells hvj hjl
      have x1 : (0 : Int) ≤ (j : Int) := by omega
      have x2 : (j : Int) < 2 := by omega
      have htk : l.take (j + 1) = l.take j ++ [l[j]] := List.take_succ_eq_append_getElem hjl
      have hmem : l[j] ∈ l := List.getElem_mem hjl
      generalize l[j] = x at *
      have Htk := Lib.hid htk
      have Hmem := Lib.hid hmem
      have hx := Row.new wr 23 (valCs x)
      have hSx := (Same.refl (fun _ => True) wr).alloc (.cells (valCs x).toArray 23)
      have HSx := Lib.hid hSx
      have gn := fun W => exnull_any x W
      have hz := hr.lt
      clear hx hSx hr hS htk hmem hvj hjl
      by_cases h1 : x.kind = 0
      · have q1 : decide (x.kind = 0) = true := by simpa using h1
        rw [q1] at gn
        have H1 := Lib.hid h1
        clear h1 q1
        go_wp2_with (go_at_call 51; refine stopAt ?_)
        unfold Hid
        refine (gn _).mono ?_
        rintro e w3 ⟨rfl, hS3⟩
        have hS4 := HSx.out.trans hS3
        have hr3 := Hr.out.keep hS4 trivial
        have r0 : w3.cell? ⟨w.heap.size, 0, none⟩ = some (.int .i64 0) := hr3.cell 0
        have r1 : w3.cell? ⟨w.heap.size, 1, none⟩ = some (.int .i64 0) := hr3.cell 1
        have r2 : w3.cell? ⟨w.heap.size, 2, none⟩ = some (.string (str [])) := hr3.cell 2
        have f0 : w3.frozen? ⟨w.heap.size, 0, none⟩ = false := hr3.frozen 0
        have f1 : w3.frozen? ⟨w.heap.size, 1, none⟩ = false := hr3.frozen 1
        have f2 : w3.frozen? ⟨w.heap.size, 2, none⟩ = false := hr3.frozen 2
        have y1 := hr3.lt
        have Hr3 := Lib.hid hr3
        have HS4 := Lib.hid hS4
        clear hS4 hr3 hS3 hz
        go_wp2
        refine bodyPost_ret (does_results (n := 0) (Hr3.out.set3 .zero) rfl rfl) rfl (ValEP.mk' (HN.out ⟨x, by have := Hmem.out; rwa [Hl.out] at this, H1.out⟩) ?_)
        exact (HS.out.trans HS4.out).set3 (fun h => by omega) _ _ _
      · have q1 : decide (x.kind = 0) = false := by simpa using h1
        rw [q1] at gn
        have H1 := Lib.hid h1
        clear h1 q1
        go_wp2_with (go_at_call 51; refine stopAt ?_)
        unfold Hid
        refine (gn _).mono ?_
        rintro e w3 ⟨rfl, hS3⟩
        have HS3 := Lib.hid (HSx.out.trans hS3)
        clear hS3
        go_wp2
        go_roundw
        case rel =>
          refine ⟨j + 1, by omega, by go_num, fun y hy => ?_, Hr.out.keep HS3.out trivial, HS.out.trans HS3.out⟩
          rw [Htk.out] at hy
          rcases List.mem_append.1 hy with hy | hy
          · exact Hall.out y hy
          · simp only [List.mem_cons, List.not_mem_nil, or_false] at hy
            rw [hy]; exact H1.out
        case measure => simp [intOf]; omega
    · obtain rfl : j = 2 := by omega
      have hE : D = numF (reckF .sub a.n b.n) := HF.out fun x hx => Hall.out x (by rw [List.take_of_length_le (by rw [Hln.out]; omega), Hl.out]; exact hx)
      obtain ⟨ad, rfl, -, d0, d1, d2, b0, b1, b2⟩ := VaR.two (RowR.keepAll Hv.out hS)
      have HE := Lib.hid hE
      have z1 := hr.lt
      clear hE hr hS
      go_wp2
      refine wp_region_tail_lit (L := [.eq (.string (str [45])), .eq (.slice (some ad) 2 cp), .eq (.pointer (some ad)), .eq (.pointer (some ⟨ad.block, ad.off + 1, none⟩)), .eq (.int .i64 a.n), .eq (.slice (some ad) 2 cp), .eq (.pointer (some ⟨ad.block, ad.off + 3, none⟩)), .eq (.pointer (some ⟨ad.block, ad.off + 4, none⟩)), .eq (.int .i64 b.n), .eq (.tuple #[.int .i64 (reckF .sub a.n b.n).1, .int .i64 (reckF .sub a.n b.n).2]), .eq (.int .i64 (reckF .sub a.n b.n).1), .eq (.int .i64 (reckF .sub a.n b.n).2), .eq (.tuple #[valV (numF (reckF .sub a.n b.n)).1, .int .i64 (numF (reckF .sub a.n b.n)).2]), .eq (valV (numF (reckF .sub a.n b.n)).1), .eq (.int .i64 (numF (reckF .sub a.n b.n)).2)]) 15 (by kernel_rfl) (by kernel_rfl) rfl rfl rfl ?_ ?_
      · refine ⟨?_, ?_, ?_, ?_, ?_, ?_, ?_, ?_, ?_, ?_, ?_, ?_, ?_, ?_, ?_, trivial⟩
        · intro ac wc hs hd hz hf hw K hK
          have e0 : ac.eval (.tmp 0) = (.string (str [45])) := hf 0 rfl
          clear hd hz hf hw
          simp only [Region.wanted, if_true, Oper.wp, execOp, resolve, List.map_toArray, List.map_cons, List.map_nil, Option.map_some, Option.map_none, e0]
          go_simp
          exact hK _ _ rfl (Same.refl _ _)
        · intro ac wc hs hd hz hf hw K hK
          have e0 : ac.eval (.tmp 1) = (.slice (some ad) 2 cp) := hf 1 rfl
          clear hd hz hf hw
          simp only [Region.wanted, if_true, Oper.wp, execOp, resolve, List.map_toArray, List.map_cons, List.map_nil, Option.map_some, Option.map_none, e0]
          go_simp
          exact hK _ _ rfl (Same.refl _ _)
        · intro ac wc hs hd hz hf hw K hK
          have e0 : ac.eval (.tmp 81) = (.slice (some ad) 2 cp) := hw 1 rfl
          clear hd hz hf hw
          simp only [Region.wanted, if_true, Oper.wp, execOp, resolve, List.map_toArray, List.map_cons, List.map_nil, Option.map_some, Option.map_none, e0]
          go_simp
          exact hK _ _ rfl (Same.refl _ _)
        · intro ac wc hs hd hz hf hw K hK
          have e0 : ac.eval (.tmp 82) = (.pointer (some ad)) := hw 2 rfl
          clear hd hz hf hw
          simp only [Region.wanted, if_true, Oper.wp, execOp, resolve, List.map_toArray, List.map_cons, List.map_nil, Option.map_some, Option.map_none, e0]
          go_simp
          exact hK _ _ rfl (Same.refl _ _)
        · intro ac wc hs hd hz hf hw K hK
          have e0 : ac.eval (.tmp 83) = (.pointer (some ⟨ad.block, ad.off + 1, none⟩)) := hw 3 rfl
          have m0 : wc.cell? ⟨ad.block, ad.off + 1, none⟩ = some (.int .i64 a.n) := hs.cell (p := ⟨ad.block, ad.off + 1, none⟩) trivial d1
          clear hd hz hf hw
          simp only [Region.wanted, if_true, Oper.wp, execOp, resolve, List.map_toArray, List.map_cons, List.map_nil, Option.map_some, Option.map_none, e0]
          go_simp
          exact hK _ _ rfl (Same.refl _ _)
        · intro ac wc hs hd hz hf hw K hK
          have e0 : ac.eval (.tmp 1) = (.slice (some ad) 2 cp) := hf 1 rfl
          clear hd hz hf hw
          simp only [Region.wanted, if_true, Oper.wp, execOp, resolve, List.map_toArray, List.map_cons, List.map_nil, Option.map_some, Option.map_none, e0]
          go_simp
          exact hK _ _ rfl (Same.refl _ _)
        · intro ac wc hs hd hz hf hw K hK
          have e0 : ac.eval (.tmp 85) = (.slice (some ad) 2 cp) := hw 5 rfl
          clear hd hz hf hw
          simp only [Region.wanted, if_true, Oper.wp, execOp, resolve, List.map_toArray, List.map_cons, List.map_nil, Option.map_some, Option.map_none, e0]
          go_simp
          exact hK _ _ rfl (Same.refl _ _)
        · intro ac wc hs hd hz hf hw K hK
          have e0 : ac.eval (.tmp 86) = (.pointer (some ⟨ad.block, ad.off + 3, none⟩)) := hw 6 rfl
          clear hd hz hf hw
          simp only [Region.wanted, if_true, Oper.wp, execOp, resolve, List.map_toArray, List.map_cons, List.map_nil, Option.map_some, Option.map_none, e0]
          go_simp
          exact hK _ _ rfl (Same.refl _ _)
        · intro ac wc hs hd hz hf hw K hK
          have e0 : ac.eval (.tmp 87) = (.pointer (some ⟨ad.block, ad.off + 4, none⟩)) := hw 7 rfl
          have m0 : wc.cell? ⟨ad.block, ad.off + 4, none⟩ = some (.int .i64 b.n) := hs.cell (p := ⟨ad.block, ad.off + 4, none⟩) trivial b1
          clear hd hz hf hw
          simp only [Region.wanted, if_true, Oper.wp, execOp, resolve, List.map_toArray, List.map_cons, List.map_nil, Option.map_some, Option.map_none, e0]
          go_simp
          exact hK _ _ rfl (Same.refl _ _)
        · intro ac wc hs hd hz hf hw K hK
          have e0 : ac.eval (.tmp 80) = (.string (str [45])) := hw 0 rfl
          have e1 : ac.eval (.tmp 84) = (.int .i64 a.n) := hw 4 rfl
          have e2 : ac.eval (.tmp 88) = (.int .i64 b.n) := hw 8 rfl
          clear hd hz hf hw
          simp only [Region.wanted, if_true, Oper.wp, execOp, resolve, List.map_toArray, List.map_cons, List.map_nil, Option.map_some, Option.map_none, e0, e1, e2]
          go_simp
          refine (exreckon_any [45] a.n b.n HA.out HB.out _).mono ?_
          rintro e wd ⟨rfl, rfl⟩
          exact hK _ _ rfl (Same.refl _ _)
        · intro ac wc hs hd hz hf hw K hK
          have e0 : ac.eval (.tmp 89) = (.tuple #[.int .i64 (reckF .sub a.n b.n).1, .int .i64 (reckF .sub a.n b.n).2]) := hw 9 rfl
          clear hd hz hf hw
          simp only [Region.wanted, if_true, Oper.wp, execOp, resolve, List.map_toArray, List.map_cons, List.map_nil, Option.map_some, Option.map_none, e0]
          go_simp
          exact hK _ _ rfl (Same.refl _ _)
        · intro ac wc hs hd hz hf hw K hK
          have e0 : ac.eval (.tmp 89) = (.tuple #[.int .i64 (reckF .sub a.n b.n).1, .int .i64 (reckF .sub a.n b.n).2]) := hw 9 rfl
          clear hd hz hf hw
          simp only [Region.wanted, if_true, Oper.wp, execOp, resolve, List.map_toArray, List.map_cons, List.map_nil, Option.map_some, Option.map_none, e0]
          go_simp
          exact hK _ _ rfl (Same.refl _ _)
        · intro ac wc hs hd hz hf hw K hK
          have e0 : ac.eval (.tmp 90) = (.int .i64 (reckF .sub a.n b.n).1) := hw 10 rfl
          have e1 : ac.eval (.tmp 91) = (.int .i64 (reckF .sub a.n b.n).2) := hw 11 rfl
          clear hd hz hf hw
          simp only [Region.wanted, if_true, Oper.wp, execOp, resolve, List.map_toArray, List.map_cons, List.map_nil, Option.map_some, Option.map_none, e0, e1]
          go_simp
          refine (exnumber_any (reckF .sub a.n b.n).1 (reckF .sub a.n b.n).2 _).mono ?_
          rintro e wd ⟨rfl, hs2⟩
          exact hK _ _ rfl hs2
        · intro ac wc hs hd hz hf hw K hK
          have e0 : ac.eval (.tmp 92) = (.tuple #[valV (numF (reckF .sub a.n b.n)).1, .int .i64 (numF (reckF .sub a.n b.n)).2]) := hw 12 rfl
          clear hd hz hf hw
          simp only [Region.wanted, if_true, Oper.wp, execOp, resolve, List.map_toArray, List.map_cons, List.map_nil, Option.map_some, Option.map_none, e0]
          go_simp
          exact hK _ _ rfl (Same.refl _ _)
        · intro ac wc hs hd hz hf hw K hK
          have e0 : ac.eval (.tmp 92) = (.tuple #[valV (numF (reckF .sub a.n b.n)).1, .int .i64 (numF (reckF .sub a.n b.n)).2]) := hw 12 rfl
          clear hd hz hf hw
          simp only [Region.wanted, if_true, Oper.wp, execOp, resolve, List.map_toArray, List.map_cons, List.map_nil, Option.map_some, Option.map_none, e0]
          go_simp
          exact hK _ _ rfl (Same.refl _ _)
      · intro vs wR hvl hvp hsR
        rcases vs with _ | ⟨z0, _ | ⟨z1, _ | ⟨z2, _ | ⟨z3, _ | ⟨z4, _ | ⟨z5, _ | ⟨z6, _ | ⟨z7, _ | ⟨z8, _ | ⟨z9, _ | ⟨z10, _ | ⟨z11, _ | ⟨z12, _ | ⟨z13, _ | ⟨z14, _ | ⟨zz, zr⟩⟩⟩⟩⟩⟩⟩⟩⟩⟩⟩⟩⟩⟩⟩⟩
        rotate_right 1
        · simp at hvl
        · simp at hvl
        · simp at hvl
        · simp at hvl
        · simp at hvl
        · simp at hvl
        · simp at hvl
        · simp at hvl
        · simp at hvl
        · simp at hvl
        · simp at hvl
        · simp at hvl
        · simp at hvl
        · simp at hvl
        · simp at hvl
        · simp at hvl
        · obtain rfl : z0 = (.string (str [45])) := hvp 0 (by omega)
          obtain rfl : z1 = (.slice (some ad) 2 cp) := hvp 1 (by omega)
          obtain rfl : z2 = (.pointer (some ad)) := hvp 2 (by omega)
          obtain rfl : z3 = (.pointer (some ⟨ad.block, ad.off + 1, none⟩)) := hvp 3 (by omega)
          obtain rfl : z4 = (.int .i64 a.n) := hvp 4 (by omega)
          obtain rfl : z5 = (.slice (some ad) 2 cp) := hvp 5 (by omega)
          obtain rfl : z6 = (.pointer (some ⟨ad.block, ad.off + 3, none⟩)) := hvp 6 (by omega)
          obtain rfl : z7 = (.pointer (some ⟨ad.block, ad.off + 4, none⟩)) := hvp 7 (by omega)
          obtain rfl : z8 = (.int .i64 b.n) := hvp 8 (by omega)
          obtain rfl : z9 = (.tuple #[.int .i64 (reckF .sub a.n b.n).1, .int .i64 (reckF .sub a.n b.n).2]) := hvp 9 (by omega)
          obtain rfl : z10 = (.int .i64 (reckF .sub a.n b.n).1) := hvp 10 (by omega)
          obtain rfl : z11 = (.int .i64 (reckF .sub a.n b.n).2) := hvp 11 (by omega)
          obtain rfl : z12 = (.tuple #[valV (numF (reckF .sub a.n b.n)).1, .int .i64 (numF (reckF .sub a.n b.n)).2]) := hvp 12 (by omega)
          obtain rfl : z13 = (valV (numF (reckF .sub a.n b.n)).1) := hvp 13 (by omega)
          obtain rfl : z14 = (.int .i64 (numF (reckF .sub a.n b.n)).2) := hvp 14 (by omega)
          clear hvl hvp
          simp only [putAll, Act.put, List.setIfInBounds_toArray, List.set_cons_succ, List.set_cons_zero, List.take_succ_cons, List.take_zero, List.drop_succ_cons, List.drop_zero, List.eraseIdx_cons_succ, List.eraseIdx_cons_zero]
          have hSz := hsR
          clear hsR
          have hr3 := Hr.out.keep hSz trivial
          have r0 : wR.cell? ⟨w.heap.size, 0, none⟩ = some (.int .i64 0) := hr3.cell 0
          have r1 : wR.cell? ⟨w.heap.size, 1, none⟩ = some (.int .i64 0) := hr3.cell 1
          have r2 : wR.cell? ⟨w.heap.size, 2, none⟩ = some (.string (str [])) := hr3.cell 2
          have f0 : wR.frozen? ⟨w.heap.size, 0, none⟩ = false := hr3.frozen 0
          have f1 : wR.frozen? ⟨w.heap.size, 1, none⟩ = false := hr3.frozen 1
          have f2 : wR.frozen? ⟨w.heap.size, 2, none⟩ = false := hr3.frozen 2
          have y1 := hr3.lt
          have Hr3 := Lib.hid hr3
          have HSz := Lib.hid hSz
          clear hr3 hSz
          go_wp2
          refine bodyPost_ret (does_results (n := (numF (reckF .sub a.n b.n)).2) (Hr3.out.set3 (numF (reckF .sub a.n b.n)).1) rfl rfl) rfl (ValEP.mk' HE.out ?_)
          exact (HS.out.trans HSz.out).set3 (fun h => by omega) _ _ _
set_option maxHeartbeats 4000000 in
theorem does_mul (A : Option Addr) (cp : Nat) (a b : Val) (S : Nat → Prop) (w : World) (hv : VaR w S (.slice A 2 cp) [a, b]) (hc : 2 ≤ cp) (hm : cp ≤ maxLen) (ha : i64B a.n = true) (hb : i64B b.n = true) : Calls Try.prog 38 #[.string (str [42]), .slice A 2 cp] w (ValEP (if a.kind = 0 ∨ b.kind = 0 then (.zero, 0) else numF (reckF .mul a.n b.n)) w) := by
  unfold maxLen at hm
  have Hv := Lib.hid hv
  have hr0 := Row.new w 23 (valCs .zero)
  have hS0 := (Same.refl (fun _ => True) w).alloc (.cells (valCs .zero).toArray 23)
  have Hr0 := Lib.hid hr0
  have HS0 := Lib.hid hS0
  obtain ⟨D, hD⟩ : ∃ D, (if a.kind = 0 ∨ b.kind = 0 then ((.zero, 0) : Val × Int) else numF (reckF .mul a.n b.n)) = D := ⟨_, rfl⟩
  rw [hD]
  have HN : Hid ((∃ x ∈ [a, b], x.kind = 0) → D = (.zero, 0)) := fun ⟨x, hx, h0⟩ => by
    rw [← hD, if_pos]
    simp only [List.mem_cons, List.not_mem_nil, or_false] at hx; rcases hx with rfl | rfl; exact .inl h0; exact .inr h0
  have HF : Hid ((∀ x ∈ [a, b], x.kind ≠ 0) → D = numF (reckF .mul a.n b.n)) := fun h => by
    rw [← hD, if_neg]
    rintro (h0 | h0); exact h a (by simp) h0; exact h b (by simp) h0
  clear hD hv hr0 hS0
  obtain ⟨l, hl⟩ : ∃ l, l = [a, b] := ⟨_, rfl⟩
  have hln : l.length = 2 := by rw [hl]; rfl
  have Hl := Lib.hid hl
  have Hln := Lib.hid hln
  clear hl hln
  have HA := Lib.hid ha
  have HB := Lib.hid hb
  clear ha hb
  go_enter Try.func38, Try.ntmps38
  go_wp2
  go_loopw [7, 34] (fun _ i wr => ∃ (j : Nat), j ≤ 2 ∧ i = .int .i64 j ∧ (∀ x ∈ l.take j, x.kind ≠ 0) ∧ Row wr w.heap.size 23 (valCs .zero) ∧ Same (fun _ => True) w wr) (fun _ i _ => 2 - (intOf i).toNat)
  case atStart => exact ⟨0, Nat.zero_le _, rfl, by simp, Hr0.out, HS0.out⟩
  case round =>
    obtain ⟨j, hj, rfl, hall, hr, hS⟩ := hrel
    have Hall := Lib.hid hall
    have Hr := Lib.hid hr
    have HS := Lib.hid hS
    clear hall
    by_cases hlt : j < 2
    · have hjl : j < l.length := by rw [Hln.out]; exact hlt
      have hvj : VaR wr S (.slice A 2 cp) l := by rw [Hl.out]; exact RowR.keepAll Hv.out hS
      obtain ⟨ad, rfl, -, d0, d1, d2⟩ := VaR.cells hvj hjl
      have x1 : (0 : Int) ≤ (j : Int) := by omega
      have x2 : (j : Int) < 2 := by omega
      have htk : l.take (j + 1) = l.take j ++ [l[j]] := List.take_succ_eq_append_getElem hjl
      have hmem : l[j] ∈ l := List.getElem_mem hjl
      generalize l[j] = x at *
      have Htk := Lib.hid htk
      have Hmem := Lib.hid hmem
      have hx := Row.new wr 23 (valCs x)
      have hSx := (Same.refl (fun _ => True) wr).alloc (.cells (valCs x).toArray 23)
      have HSx := Lib.hid hSx
      have gn := fun W => exnull_any x W
      have hz := hr.lt
      clear hx hSx hr hS htk hmem hvj hjl
      by_cases h1 : x.kind = 0
      · have q1 : decide (x.kind = 0) = true := by simpa using h1
        rw [q1] at gn
        have H1 := Lib.hid h1
        clear h1 q1
        go_wp2_with (go_at_call 51; refine stopAt ?_)
        unfold Hid
        refine (gn _).mono ?_
        rintro e w3 ⟨rfl, hS3⟩
        have hS4 := HSx.out.trans hS3
        have hr3 := Hr.out.keep hS4 trivial
        have r0 : w3.cell? ⟨w.heap.size, 0, none⟩ = some (.int .i64 0) := hr3.cell 0
        have r1 : w3.cell? ⟨w.heap.size, 1, none⟩ = some (.int .i64 0) := hr3.cell 1
        have r2 : w3.cell? ⟨w.heap.size, 2, none⟩ = some (.string (str [])) := hr3.cell 2
        have f0 : w3.frozen? ⟨w.heap.size, 0, none⟩ = false := hr3.frozen 0
        have f1 : w3.frozen? ⟨w.heap.size, 1, none⟩ = false := hr3.frozen 1
        have f2 : w3.frozen? ⟨w.heap.size, 2, none⟩ = false := hr3.frozen 2
        have y1 := hr3.lt
        have Hr3 := Lib.hid hr3
        have HS4 := Lib.hid hS4
        clear hS4 hr3 hS3 hz
        go_wp2
        refine bodyPost_ret (does_results (n := 0) (Hr3.out.set3 .zero) rfl rfl) rfl (ValEP.mk' (HN.out ⟨x, by have := Hmem.out; rwa [Hl.out] at this, H1.out⟩) ?_)
        exact (HS.out.trans HS4.out).set3 (fun h => by omega) _ _ _
      · have q1 : decide (x.kind = 0) = false := by simpa using h1
        rw [q1] at gn
        have H1 := Lib.hid h1
        clear h1 q1
        go_wp2_with (go_at_call 51; refine stopAt ?_)
        unfold Hid
        refine (gn _).mono ?_
        rintro e w3 ⟨rfl, hS3⟩
        have HS3 := Lib.hid (HSx.out.trans hS3)
        clear hS3
        go_wp2
        go_roundw
        case rel =>
          refine ⟨j + 1, by omega, by go_num, fun y hy => ?_, Hr.out.keep HS3.out trivial, HS.out.trans HS3.out⟩
          rw [Htk.out] at hy
          rcases List.mem_append.1 hy with hy | hy
          · exact Hall.out y hy
          · simp only [List.mem_cons, List.not_mem_nil, or_false] at hy
            rw [hy]; exact H1.out
        case measure => simp [intOf]; omega
    · obtain rfl : j = 2 := by omega
      have hE : D = numF (reckF .mul a.n b.n) := HF.out fun x hx => Hall.out x (by rw [List.take_of_length_le (by rw [Hln.out]; omega), Hl.out]; exact hx)
      obtain ⟨ad, rfl, -, d0, d1, d2, b0, b1, b2⟩ := VaR.two (RowR.keepAll Hv.out hS)
      have HE := Lib.hid hE
      have z1 := hr.lt
      clear hE hr hS
      go_wp2
      refine wp_region_tail_lit (L := [.eq (.string (str [42])), .eq (.slice (some ad) 2 cp), .eq (.pointer (some ad)), .eq (.pointer (some ⟨ad.block, ad.off + 1, none⟩)), .eq (.int .i64 a.n), .eq (.slice (some ad) 2 cp), .eq (.pointer (some ⟨ad.block, ad.off + 3, none⟩)), .eq (.pointer (some ⟨ad.block, ad.off + 4, none⟩)), .eq (.int .i64 b.n), .eq (.tuple #[.int .i64 (reckF .mul a.n b.n).1, .int .i64 (reckF .mul a.n b.n).2]), .eq (.int .i64 (reckF .mul a.n b.n).1), .eq (.int .i64 (reckF .mul a.n b.n).2), .eq (.tuple #[valV (numF (reckF .mul a.n b.n)).1, .int .i64 (numF (reckF .mul a.n b.n)).2]), .eq (valV (numF (reckF .mul a.n b.n)).1), .eq (.int .i64 (numF (reckF .mul a.n b.n)).2)]) 15 (by kernel_rfl) (by kernel_rfl) rfl rfl rfl ?_ ?_
      · refine ⟨?_, ?_, ?_, ?_, ?_, ?_, ?_, ?_, ?_, ?_, ?_, ?_, ?_, ?_, ?_, trivial⟩
        · intro ac wc hs hd hz hf hw K hK
          have e0 : ac.eval (.tmp 0) = (.string (str [42])) := hf 0 rfl
          clear hd hz hf hw
          simp only [Region.wanted, if_true, Oper.wp, execOp, resolve, List.map_toArray, List.map_cons, List.map_nil, Option.map_some, Option.map_none, e0]
          go_simp
          exact hK _ _ rfl (Same.refl _ _)
        · intro ac wc hs hd hz hf hw K hK
          have e0 : ac.eval (.tmp 1) = (.slice (some ad) 2 cp) := hf 1 rfl
          clear hd hz hf hw
          simp only [Region.wanted, if_true, Oper.wp, execOp, resolve, List.map_toArray, List.map_cons, List.map_nil, Option.map_some, Option.map_none, e0]
          go_simp
          exact hK _ _ rfl (Same.refl _ _)
        · intro ac wc hs hd hz hf hw K hK
          have e0 : ac.eval (.tmp 81) = (.slice (some ad) 2 cp) := hw 1 rfl
          clear hd hz hf hw
          simp only [Region.wanted, if_true, Oper.wp, execOp, resolve, List.map_toArray, List.map_cons, List.map_nil, Option.map_some, Option.map_none, e0]
          go_simp
          exact hK _ _ rfl (Same.refl _ _)
        · intro ac wc hs hd hz hf hw K hK
          have e0 : ac.eval (.tmp 82) = (.pointer (some ad)) := hw 2 rfl
          clear hd hz hf hw
          simp only [Region.wanted, if_true, Oper.wp, execOp, resolve, List.map_toArray, List.map_cons, List.map_nil, Option.map_some, Option.map_none, e0]
          go_simp
          exact hK _ _ rfl (Same.refl _ _)
        · intro ac wc hs hd hz hf hw K hK
          have e0 : ac.eval (.tmp 83) = (.pointer (some ⟨ad.block, ad.off + 1, none⟩)) := hw 3 rfl
          have m0 : wc.cell? ⟨ad.block, ad.off + 1, none⟩ = some (.int .i64 a.n) := hs.cell (p := ⟨ad.block, ad.off + 1, none⟩) trivial d1
          clear hd hz hf hw
          simp only [Region.wanted, if_true, Oper.wp, execOp, resolve, List.map_toArray, List.map_cons, List.map_nil, Option.map_some, Option.map_none, e0]
          go_simp
          exact hK _ _ rfl (Same.refl _ _)
        · intro ac wc hs hd hz hf hw K hK
          have e0 : ac.eval (.tmp 1) = (.slice (some ad) 2 cp) := hf 1 rfl
          clear hd hz hf hw
          simp only [Region.wanted, if_true, Oper.wp, execOp, resolve, List.map_toArray, List.map_cons, List.map_nil, Option.map_some, Option.map_none, e0]
          go_simp
          exact hK _ _ rfl (Same.refl _ _)
        · intro ac wc hs hd hz hf hw K hK
          have e0 : ac.eval (.tmp 85) = (.slice (some ad) 2 cp) := hw 5 rfl
          clear hd hz hf hw
          simp only [Region.wanted, if_true, Oper.wp, execOp, resolve, List.map_toArray, List.map_cons, List.map_nil, Option.map_some, Option.map_none, e0]
          go_simp
          exact hK _ _ rfl (Same.refl _ _)
        · intro ac wc hs hd hz hf hw K hK
          have e0 : ac.eval (.tmp 86) = (.pointer (some ⟨ad.block, ad.off + 3, none⟩)) := hw 6 rfl
          clear hd hz hf hw
          simp only [Region.wanted, if_true, Oper.wp, execOp, resolve, List.map_toArray, List.map_cons, List.map_nil, Option.map_some, Option.map_none, e0]
          go_simp
          exact hK _ _ rfl (Same.refl _ _)
        · intro ac wc hs hd hz hf hw K hK
          have e0 : ac.eval (.tmp 87) = (.pointer (some ⟨ad.block, ad.off + 4, none⟩)) := hw 7 rfl
          have m0 : wc.cell? ⟨ad.block, ad.off + 4, none⟩ = some (.int .i64 b.n) := hs.cell (p := ⟨ad.block, ad.off + 4, none⟩) trivial b1
          clear hd hz hf hw
          simp only [Region.wanted, if_true, Oper.wp, execOp, resolve, List.map_toArray, List.map_cons, List.map_nil, Option.map_some, Option.map_none, e0]
          go_simp
          exact hK _ _ rfl (Same.refl _ _)
        · intro ac wc hs hd hz hf hw K hK
          have e0 : ac.eval (.tmp 80) = (.string (str [42])) := hw 0 rfl
          have e1 : ac.eval (.tmp 84) = (.int .i64 a.n) := hw 4 rfl
          have e2 : ac.eval (.tmp 88) = (.int .i64 b.n) := hw 8 rfl
          clear hd hz hf hw
          simp only [Region.wanted, if_true, Oper.wp, execOp, resolve, List.map_toArray, List.map_cons, List.map_nil, Option.map_some, Option.map_none, e0, e1, e2]
          go_simp
          refine (exreckon_any [42] a.n b.n HA.out HB.out _).mono ?_
          rintro e wd ⟨rfl, rfl⟩
          exact hK _ _ rfl (Same.refl _ _)
        · intro ac wc hs hd hz hf hw K hK
          have e0 : ac.eval (.tmp 89) = (.tuple #[.int .i64 (reckF .mul a.n b.n).1, .int .i64 (reckF .mul a.n b.n).2]) := hw 9 rfl
          clear hd hz hf hw
          simp only [Region.wanted, if_true, Oper.wp, execOp, resolve, List.map_toArray, List.map_cons, List.map_nil, Option.map_some, Option.map_none, e0]
          go_simp
          exact hK _ _ rfl (Same.refl _ _)
        · intro ac wc hs hd hz hf hw K hK
          have e0 : ac.eval (.tmp 89) = (.tuple #[.int .i64 (reckF .mul a.n b.n).1, .int .i64 (reckF .mul a.n b.n).2]) := hw 9 rfl
          clear hd hz hf hw
          simp only [Region.wanted, if_true, Oper.wp, execOp, resolve, List.map_toArray, List.map_cons, List.map_nil, Option.map_some, Option.map_none, e0]
          go_simp
          exact hK _ _ rfl (Same.refl _ _)
        · intro ac wc hs hd hz hf hw K hK
          have e0 : ac.eval (.tmp 90) = (.int .i64 (reckF .mul a.n b.n).1) := hw 10 rfl
          have e1 : ac.eval (.tmp 91) = (.int .i64 (reckF .mul a.n b.n).2) := hw 11 rfl
          clear hd hz hf hw
          simp only [Region.wanted, if_true, Oper.wp, execOp, resolve, List.map_toArray, List.map_cons, List.map_nil, Option.map_some, Option.map_none, e0, e1]
          go_simp
          refine (exnumber_any (reckF .mul a.n b.n).1 (reckF .mul a.n b.n).2 _).mono ?_
          rintro e wd ⟨rfl, hs2⟩
          exact hK _ _ rfl hs2
        · intro ac wc hs hd hz hf hw K hK
          have e0 : ac.eval (.tmp 92) = (.tuple #[valV (numF (reckF .mul a.n b.n)).1, .int .i64 (numF (reckF .mul a.n b.n)).2]) := hw 12 rfl
          clear hd hz hf hw
          simp only [Region.wanted, if_true, Oper.wp, execOp, resolve, List.map_toArray, List.map_cons, List.map_nil, Option.map_some, Option.map_none, e0]
          go_simp
          exact hK _ _ rfl (Same.refl _ _)
        · intro ac wc hs hd hz hf hw K hK
          have e0 : ac.eval (.tmp 92) = (.tuple #[valV (numF (reckF .mul a.n b.n)).1, .int .i64 (numF (reckF .mul a.n b.n)).2]) := hw 12 rfl
          clear hd hz hf hw
          simp only [Region.wanted, if_true, Oper.wp, execOp, resolve, List.map_toArray, List.map_cons, List.map_nil, Option.map_some, Option.map_none, e0]
          go_simp
          exact hK _ _ rfl (Same.refl _ _)
      · intro vs wR hvl hvp hsR
        rcases vs with _ | ⟨z0, _ | ⟨z1, _ | ⟨z2, _ | ⟨z3, _ | ⟨z4, _ | ⟨z5, _ | ⟨z6, _ | ⟨z7, _ | ⟨z8, _ | ⟨z9, _ | ⟨z10, _ | ⟨z11, _ | ⟨z12, _ | ⟨z13, _ | ⟨z14, _ | ⟨zz, zr⟩⟩⟩⟩⟩⟩⟩⟩⟩⟩⟩⟩⟩⟩⟩⟩
        rotate_right 1
        · simp at hvl
        · simp at hvl
        · simp at hvl
        · simp at hvl
        · simp at hvl
        · simp at hvl
        · simp at hvl
        · simp at hvl
        · simp at hvl
        · simp at hvl
        · simp at hvl
        · simp at hvl
        · simp at hvl
        · simp at hvl
        · simp at hvl
        · simp at hvl
        · obtain rfl : z0 = (.string (str [42])) := hvp 0 (by omega)
          obtain rfl : z1 = (.slice (some ad) 2 cp) := hvp 1 (by omega)
          obtain rfl : z2 = (.pointer (some ad)) := hvp 2 (by omega)
          obtain rfl : z3 = (.pointer (some ⟨ad.block, ad.off + 1, none⟩)) := hvp 3 (by omega)
          obtain rfl : z4 = (.int .i64 a.n) := hvp 4 (by omega)
          obtain rfl : z5 = (.slice (some ad) 2 cp) := hvp 5 (by omega)
          obtain rfl : z6 = (.pointer (some ⟨ad.block, ad.off + 3, none⟩)) := hvp 6 (by omega)
          obtain rfl : z7 = (.pointer (some ⟨ad.block, ad.off + 4, none⟩)) := hvp 7 (by omega)
          obtain rfl : z8 = (.int .i64 b.n) := hvp 8 (by omega)
          obtain rfl : z9 = (.tuple #[.int .i64 (reckF .mul a.n b.n).1, .int .i64 (reckF .mul a.n b.n).2]) := hvp 9 (by omega)
          obtain rfl : z10 = (.int .i64 (reckF .mul a.n b.n).1) := hvp 10 (by omega)
          obtain rfl : z11 = (.int .i64 (reckF .mul a.n b.n).2) := hvp 11 (by omega)
          obtain rfl : z12 = (.tuple #[valV (numF (reckF .mul a.n b.n)).1, .int .i64 (numF (reckF .mul a.n b.n)).2]) := hvp 12 (by omega)
          obtain rfl : z13 = (valV (numF (reckF .mul a.n b.n)).1) := hvp 13 (by omega)
          obtain rfl : z14 = (.int .i64 (numF (reckF .mul a.n b.n)).2) := hvp 14 (by omega)
          clear hvl hvp
          simp only [putAll, Act.put, List.setIfInBounds_toArray, List.set_cons_succ, List.set_cons_zero, List.take_succ_cons, List.take_zero, List.drop_succ_cons, List.drop_zero, List.eraseIdx_cons_succ, List.eraseIdx_cons_zero]
          have hSz := hsR
          clear hsR
          have hr3 := Hr.out.keep hSz trivial
          have r0 : wR.cell? ⟨w.heap.size, 0, none⟩ = some (.int .i64 0) := hr3.cell 0
          have r1 : wR.cell? ⟨w.heap.size, 1, none⟩ = some (.int .i64 0) := hr3.cell 1
          have r2 : wR.cell? ⟨w.heap.size, 2, none⟩ = some (.string (str [])) := hr3.cell 2
          have f0 : wR.frozen? ⟨w.heap.size, 0, none⟩ = false := hr3.frozen 0
          have f1 : wR.frozen? ⟨w.heap.size, 1, none⟩ = false := hr3.frozen 1
          have f2 : wR.frozen? ⟨w.heap.size, 2, none⟩ = false := hr3.frozen 2
          have y1 := hr3.lt
          have Hr3 := Lib.hid hr3
          have HSz := Lib.hid hSz
          clear hr3 hSz
          go_wp2
          refine bodyPost_ret (does_results (n := (numF (reckF .mul a.n b.n)).2) (Hr3.out.set3 (numF (reckF .mul a.n b.n)).1) rfl rfl) rfl (ValEP.mk' HE.out ?_)
          exact (HS.out.trans HSz.out).set3 (fun h => by omega) _ _ _
set_option maxHeartbeats 4000000 in
theorem does_div (A : Option Addr) (cp : Nat) (a b : Val) (S : Nat → Prop) (w : World) (hv : VaR w S (.slice A 2 cp) [a, b]) (hc : 2 ≤ cp) (hm : cp ≤ maxLen) (ha : i64B a.n = true) (hb : i64B b.n = true) : Calls Try.prog 38 #[.string (str [47]), .slice A 2 cp] w (ValEP (if a.kind = 0 ∨ b.kind = 0 then (.zero, 0) else numF (reckF .div a.n b.n)) w) := by
  unfold maxLen at hm
  have Hv := Lib.hid hv
  have hr0 := Row.new w 23 (valCs .zero)
  have hS0 := (Same.refl (fun _ => True) w).alloc (.cells (valCs .zero).toArray 23)
  have Hr0 := Lib.hid hr0
  have HS0 := Lib.hid hS0
  obtain ⟨D, hD⟩ : ∃ D, (if a.kind = 0 ∨ b.kind = 0 then ((.zero, 0) : Val × Int) else numF (reckF .div a.n b.n)) = D := ⟨_, rfl⟩
  rw [hD]
  have HN : Hid ((∃ x ∈ [a, b], x.kind = 0) → D = (.zero, 0)) := fun ⟨x, hx, h0⟩ => by
    rw [← hD, if_pos]
    simp only [List.mem_cons, List.not_mem_nil, or_false] at hx; rcases hx with rfl | rfl; exact .inl h0; exact .inr h0
  have HF : Hid ((∀ x ∈ [a, b], x.kind ≠ 0) → D = numF (reckF .div a.n b.n)) := fun h => by
    rw [← hD, if_neg]
    rintro (h0 | h0); exact h a (by simp) h0; exact h b (by simp) h0
  clear hD hv hr0 hS0
  obtain ⟨l, hl⟩ : ∃ l, l = [a, b] := ⟨_, rfl⟩
  have hln : l.length = 2 := by rw [hl]; rfl
  have Hl := Lib.hid hl
  have Hln := Lib.hid hln
  clear hl hln
  have HA := Lib.hid ha
  have HB := Lib.hid hb
  clear ha hb
  go_enter Try.func38, Try.ntmps38
  go_wp2
  go_loopw [7, 34] (fun _ i wr => ∃ (j : Nat), j ≤ 2 ∧ i = .int .i64 j ∧ (∀ x ∈ l.take j, x.kind ≠ 0) ∧ Row wr w.heap.size 23 (valCs .zero) ∧ Same (fun _ => True) w wr) (fun _ i _ => 2 - (intOf i).toNat)
  case atStart => exact ⟨0, Nat.zero_le _, rfl, by simp, Hr0.out, HS0.out⟩
  case round =>
    obtain ⟨j, hj, rfl, hall, hr, hS⟩ := hrel
    have Hall := Lib.hid hall
    have Hr := Lib.hid hr
    have HS := Lib.hid hS
    clear hall
    by_cases hlt : j < 2
    · have hjl : j < l.length := by rw [Hln.out]; exact hlt
      have hvj : VaR wr S (.slice A 2 cp) l := by rw [Hl.out]; exact RowR.keepAll Hv.out hS
      obtain ⟨ad, rfl, -, d0, d1, d2⟩ := VaR.cells hvj hjl
      have x1 : (0 : Int) ≤ (j : Int) := by omega
      have x2 : (j : Int) < 2 := by omega
      have htk : l.take (j + 1) = l.take j ++ [l[j]] := List.take_succ_eq_append_getElem hjl
      have hmem : l[j] ∈ l := List.getElem_mem hjl
      generalize l[j] = x at *
      have Htk := Lib.hid htk
      have Hmem := Lib.hid hmem
      have hx := Row.new wr 23 (valCs x)
      have hSx := (Same.refl (fun _ => True) wr).alloc (.cells (valCs x).toArray 23)
      have HSx := Lib.hid hSx
      have gn := fun W => exnull_any x W
      have hz := hr.lt
      clear hx hSx hr hS htk hmem hvj hjl
      by_cases h1 : x.kind = 0
      · have q1 : decide (x.kind = 0) = true := by simpa using h1
        rw [q1] at gn
        have H1 := Lib.hid h1
        clear h1 q1
        go_wp2_with (go_at_call 51; refine stopAt ?_)
        unfold Hid
        refine (gn _).mono ?_
        rintro e w3 ⟨rfl, hS3⟩
        have hS4 := HSx.out.trans hS3
        have hr3 := Hr.out.keep hS4 trivial
        have r0 : w3.cell? ⟨w.heap.size, 0, none⟩ = some (.int .i64 0) := hr3.cell 0
        have r1 : w3.cell? ⟨w.heap.size, 1, none⟩ = some (.int .i64 0) := hr3.cell 1
        have r2 : w3.cell? ⟨w.heap.size, 2, none⟩ = some (.string (str [])) := hr3.cell 2
        have f0 : w3.frozen? ⟨w.heap.size, 0, none⟩ = false := hr3.frozen 0
        have f1 : w3.frozen? ⟨w.heap.size, 1, none⟩ = false := hr3.frozen 1
        have f2 : w3.frozen? ⟨w.heap.size, 2, none⟩ = false := hr3.frozen 2
        have y1 := hr3.lt
        have Hr3 := Lib.hid hr3
        have HS4 := Lib.hid hS4
        clear hS4 hr3 hS3 hz
        go_wp2
        refine bodyPost_ret (does_results (n := 0) (Hr3.out.set3 .zero) rfl rfl) rfl (ValEP.mk' (HN.out ⟨x, by have := Hmem.out; rwa [Hl.out] at this, H1.out⟩) ?_)
        exact (HS.out.trans HS4.out).set3 (fun h => by omega) _ _ _
      · have q1 : decide (x.kind = 0) = false := by simpa using h1
        rw [q1] at gn
        have H1 := Lib.hid h1
        clear h1 q1
        go_wp2_with (go_at_call 51; refine stopAt ?_)
        unfold Hid
        refine (gn _).mono ?_
        rintro e w3 ⟨rfl, hS3⟩
        have HS3 := Lib.hid (HSx.out.trans hS3)
        clear hS3
        go_wp2
        go_roundw
        case rel =>
          refine ⟨j + 1, by omega, by go_num, fun y hy => ?_, Hr.out.keep HS3.out trivial, HS.out.trans HS3.out⟩
          rw [Htk.out] at hy
          rcases List.mem_append.1 hy with hy | hy
          · exact Hall.out y hy
          · simp only [List.mem_cons, List.not_mem_nil, or_false] at hy
            rw [hy]; exact H1.out
        case measure => simp [intOf]; omega
    · obtain rfl : j = 2 := by omega
      have hE : D = numF (reckF .div a.n b.n) := HF.out fun x hx => Hall.out x (by rw [List.take_of_length_le (by rw [Hln.out]; omega), Hl.out]; exact hx)
      obtain ⟨ad, rfl, -, d0, d1, d2, b0, b1, b2⟩ := VaR.two (RowR.keepAll Hv.out hS)
      have HE := Lib.hid hE
      have z1 := hr.lt
      clear hE hr hS
      go_wp2
      refine wp_region_tail_lit (L := [.eq (.string (str [47])), .eq (.slice (some ad) 2 cp), .eq (.pointer (some ad)), .eq (.pointer (some ⟨ad.block, ad.off + 1, none⟩)), .eq (.int .i64 a.n), .eq (.slice (some ad) 2 cp), .eq (.pointer (some ⟨ad.block, ad.off + 3, none⟩)), .eq (.pointer (some ⟨ad.block, ad.off + 4, none⟩)), .eq (.int .i64 b.n), .eq (.tuple #[.int .i64 (reckF .div a.n b.n).1, .int .i64 (reckF .div a.n b.n).2]), .eq (.int .i64 (reckF .div a.n b.n).1), .eq (.int .i64 (reckF .div a.n b.n).2), .eq (.tuple #[valV (numF (reckF .div a.n b.n)).1, .int .i64 (numF (reckF .div a.n b.n)).2]), .eq (valV (numF (reckF .div a.n b.n)).1), .eq (.int .i64 (numF (reckF .div a.n b.n)).2)]) 15 (by kernel_rfl) (by kernel_rfl) rfl rfl rfl ?_ ?_
      · refine ⟨?_, ?_, ?_, ?_, ?_, ?_, ?_, ?_, ?_, ?_, ?_, ?_, ?_, ?_, ?_, trivial⟩
        · intro ac wc hs hd hz hf hw K hK
          have e0 : ac.eval (.tmp 0) = (.string (str [47])) := hf 0 rfl
          clear hd hz hf hw
          simp only [Region.wanted, if_true, Oper.wp, execOp, resolve, List.map_toArray, List.map_cons, List.map_nil, Option.map_some, Option.map_none, e0]
          go_simp
          exact hK _ _ rfl (Same.refl _ _)
        · intro ac wc hs hd hz hf hw K hK
          have e0 : ac.eval (.tmp 1) = (.slice (some ad) 2 cp) := hf 1 rfl
          clear hd hz hf hw
          simp only [Region.wanted, if_true, Oper.wp, execOp, resolve, List.map_toArray, List.map_cons, List.map_nil, Option.map_some, Option.map_none, e0]
          go_simp
          exact hK _ _ rfl (Same.refl _ _)
        · intro ac wc hs hd hz hf hw K hK
          have e0 : ac.eval (.tmp 81) = (.slice (some ad) 2 cp) := hw 1 rfl
          clear hd hz hf hw
          simp only [Region.wanted, if_true, Oper.wp, execOp, resolve, List.map_toArray, List.map_cons, List.map_nil, Option.map_some, Option.map_none, e0]
          go_simp
          exact hK _ _ rfl (Same.refl _ _)
        · intro ac wc hs hd hz hf hw K hK
          have e0 : ac.eval (.tmp 82) = (.pointer (some ad)) := hw 2 rfl
          clear hd hz hf hw
          simp only [Region.wanted, if_true, Oper.wp, execOp, resolve, List.map_toArray, List.map_cons, List.map_nil, Option.map_some, Option.map_none, e0]
          go_simp
          exact hK _ _ rfl (Same.refl _ _)
        · intro ac wc hs hd hz hf hw K hK
          have e0 : ac.eval (.tmp 83) = (.pointer (some ⟨ad.block, ad.off + 1, none⟩)) := hw 3 rfl
          have m0 : wc.cell? ⟨ad.block, ad.off + 1, none⟩ = some (.int .i64 a.n) := hs.cell (p := ⟨ad.block, ad.off + 1, none⟩) trivial d1
          clear hd hz hf hw
          simp only [Region.wanted, if_true, Oper.wp, execOp, resolve, List.map_toArray, List.map_cons, List.map_nil, Option.map_some, Option.map_none, e0]
          go_simp
          exact hK _ _ rfl (Same.refl _ _)
        · intro ac wc hs hd hz hf hw K hK
          have e0 : ac.eval (.tmp 1) = (.slice (some ad) 2 cp) := hf 1 rfl
          clear hd hz hf hw
          simp only [Region.wanted, if_true, Oper.wp, execOp, resolve, List.map_toArray, List.map_cons, List.map_nil, Option.map_some, Option.map_none, e0]
          go_simp
          exact hK _ _ rfl (Same.refl _ _)
        · intro ac wc hs hd hz hf hw K hK
          have e0 : ac.eval (.tmp 85) = (.slice (some ad) 2 cp) := hw 5 rfl
          clear hd hz hf hw
          simp only [Region.wanted, if_true, Oper.wp, execOp, resolve, List.map_toArray, List.map_cons, List.map_nil, Option.map_some, Option.map_none, e0]
          go_simp
          exact hK _ _ rfl (Same.refl _ _)
        · intro ac wc hs hd hz hf hw K hK
          have e0 : ac.eval (.tmp 86) = (.pointer (some ⟨ad.block, ad.off + 3, none⟩)) := hw 6 rfl
          clear hd hz hf hw
          simp only [Region.wanted, if_true, Oper.wp, execOp, resolve, List.map_toArray, List.map_cons, List.map_nil, Option.map_some, Option.map_none, e0]
          go_simp
          exact hK _ _ rfl (Same.refl _ _)
        · intro ac wc hs hd hz hf hw K hK
          have e0 : ac.eval (.tmp 87) = (.pointer (some ⟨ad.block, ad.off + 4, none⟩)) := hw 7 rfl
          have m0 : wc.cell? ⟨ad.block, ad.off + 4, none⟩ = some (.int .i64 b.n) := hs.cell (p := ⟨ad.block, ad.off + 4, none⟩) trivial b1
          clear hd hz hf hw
          simp only [Region.wanted, if_true, Oper.wp, execOp, resolve, List.map_toArray, List.map_cons, List.map_nil, Option.map_some, Option.map_none, e0]
          go_simp
          exact hK _ _ rfl (Same.refl _ _)
        · intro ac wc hs hd hz hf hw K hK
          have e0 : ac.eval (.tmp 80) = (.string (str [47])) := hw 0 rfl
          have e1 : ac.eval (.tmp 84) = (.int .i64 a.n) := hw 4 rfl
          have e2 : ac.eval (.tmp 88) = (.int .i64 b.n) := hw 8 rfl
          clear hd hz hf hw
          simp only [Region.wanted, if_true, Oper.wp, execOp, resolve, List.map_toArray, List.map_cons, List.map_nil, Option.map_some, Option.map_none, e0, e1, e2]
          go_simp
          refine (exreckon_any [47] a.n b.n HA.out HB.out _).mono ?_
          rintro e wd ⟨rfl, rfl⟩
          exact hK _ _ rfl (Same.refl _ _)
        · intro ac wc hs hd hz hf hw K hK
          have e0 : ac.eval (.tmp 89) = (.tuple #[.int .i64 (reckF .div a.n b.n).1, .int .i64 (reckF .div a.n b.n).2]) := hw 9 rfl
          clear hd hz hf hw
          simp only [Region.wanted, if_true, Oper.wp, execOp, resolve, List.map_toArray, List.map_cons, List.map_nil, Option.map_some, Option.map_none, e0]
          go_simp
          exact hK _ _ rfl (Same.refl _ _)
        · intro ac wc hs hd hz hf hw K hK
          have e0 : ac.eval (.tmp 89) = (.tuple #[.int .i64 (reckF .div a.n b.n).1, .int .i64 (reckF .div a.n b.n).2]) := hw 9 rfl
          clear hd hz hf hw
          simp only [Region.wanted, if_true, Oper.wp, execOp, resolve, List.map_toArray, List.map_cons, List.map_nil, Option.map_some, Option.map_none, e0]
          go_simp
          exact hK _ _ rfl (Same.refl _ _)
        · intro ac wc hs hd hz hf hw K hK
          have e0 : ac.eval (.tmp 90) = (.int .i64 (reckF .div a.n b.n).1) := hw 10 rfl
          have e1 : ac.eval (.tmp 91) = (.int .i64 (reckF .div a.n b.n).2) := hw 11 rfl
          clear hd hz hf hw
          simp only [Region.wanted, if_true, Oper.wp, execOp, resolve, List.map_toArray, List.map_cons, List.map_nil, Option.map_some, Option.map_none, e0, e1]
          go_simp
          refine (exnumber_any (reckF .div a.n b.n).1 (reckF .div a.n b.n).2 _).mono ?_
          rintro e wd ⟨rfl, hs2⟩
          exact hK _ _ rfl hs2
        · intro ac wc hs hd hz hf hw K hK
          have e0 : ac.eval (.tmp 92) = (.tuple #[valV (numF (reckF .div a.n b.n)).1, .int .i64 (numF (reckF .div a.n b.n)).2]) := hw 12 rfl
          clear hd hz hf hw
          simp only [Region.wanted, if_true, Oper.wp, execOp, resolve, List.map_toArray, List.map_cons, List.map_nil, Option.map_some, Option.map_none, e0]
          go_simp
          exact hK _ _ rfl (Same.refl _ _)
        · intro ac wc hs hd hz hf hw K hK
          have e0 : ac.eval (.tmp 92) = (.tuple #[valV (numF (reckF .div a.n b.n)).1, .int .i64 (numF (reckF .div a.n b.n)).2]) := hw 12 rfl
          clear hd hz hf hw
          simp only [Region.wanted, if_true, Oper.wp, execOp, resolve, List.map_toArray, List.map_cons, List.map_nil, Option.map_some, Option.map_none, e0]
          go_simp
          exact hK _ _ rfl (Same.refl _ _)
      · intro vs wR hvl hvp hsR
        rcases vs with _ | ⟨z0, _ | ⟨z1, _ | ⟨z2, _ | ⟨z3, _ | ⟨z4, _ | ⟨z5, _ | ⟨z6, _ | ⟨z7, _ | ⟨z8, _ | ⟨z9, _ | ⟨z10, _ | ⟨z11, _ | ⟨z12, _ | ⟨z13, _ | ⟨z14, _ | ⟨zz, zr⟩⟩⟩⟩⟩⟩⟩⟩⟩⟩⟩⟩⟩⟩⟩⟩
        rotate_right 1
        · simp at hvl
        · simp at hvl
        · simp at hvl
        · simp at hvl
        · simp at hvl
        · simp at hvl
        · simp at hvl
        · simp at hvl
        · simp at hvl
        · simp at hvl
        · simp at hvl
        · simp at hvl
        · simp at hvl
        · simp at hvl
        · simp at hvl
        · simp at hvl
        · obtain rfl : z0 = (.string (str [47])) := hvp 0 (by omega)
          obtain rfl : z1 = (.slice (some ad) 2 cp) := hvp 1 (by omega)
          obtain rfl : z2 = (.pointer (some ad)) := hvp 2 (by omega)
          obtain rfl : z3 = (.pointer (some ⟨ad.block, ad.off + 1, none⟩)) := hvp 3 (by omega)
          obtain rfl : z4 = (.int .i64 a.n) := hvp 4 (by omega)
          obtain rfl : z5 = (.slice (some ad) 2 cp) := hvp 5 (by omega)
          obtain rfl : z6 = (.pointer (some ⟨ad.block, ad.off + 3, none⟩)) := hvp 6 (by omega)
          obtain rfl : z7 = (.pointer (some ⟨ad.block, ad.off + 4, none⟩)) := hvp 7 (by omega)
          obtain rfl : z8 = (.int .i64 b.n) := hvp 8 (by omega)
          obtain rfl : z9 = (.tuple #[.int .i64 (reckF .div a.n b.n).1, .int .i64 (reckF .div a.n b.n).2]) := hvp 9 (by omega)
          obtain rfl : z10 = (.int .i64 (reckF .div a.n b.n).1) := hvp 10 (by omega)
          obtain rfl : z11 = (.int .i64 (reckF .div a.n b.n).2) := hvp 11 (by omega)
          obtain rfl : z12 = (.tuple #[valV (numF (reckF .div a.n b.n)).1, .int .i64 (numF (reckF .div a.n b.n)).2]) := hvp 12 (by omega)
          obtain rfl : z13 = (valV (numF (reckF .div a.n b.n)).1) := hvp 13 (by omega)
          obtain rfl : z14 = (.int .i64 (numF (reckF .div a.n b.n)).2) := hvp 14 (by omega)
          clear hvl hvp
          simp only [putAll, Act.put, List.setIfInBounds_toArray, List.set_cons_succ, List.set_cons_zero, List.take_succ_cons, List.take_zero, List.drop_succ_cons, List.drop_zero, List.eraseIdx_cons_succ, List.eraseIdx_cons_zero]
          have hSz := hsR
          clear hsR
          have hr3 := Hr.out.keep hSz trivial
          have r0 : wR.cell? ⟨w.heap.size, 0, none⟩ = some (.int .i64 0) := hr3.cell 0
          have r1 : wR.cell? ⟨w.heap.size, 1, none⟩ = some (.int .i64 0) := hr3.cell 1
          have r2 : wR.cell? ⟨w.heap.size, 2, none⟩ = some (.string (str [])) := hr3.cell 2
          have f0 : wR.frozen? ⟨w.heap.size, 0, none⟩ = false := hr3.frozen 0
          have f1 : wR.frozen? ⟨w.heap.size, 1, none⟩ = false := hr3.frozen 1
          have f2 : wR.frozen? ⟨w.heap.size, 2, none⟩ = false := hr3.frozen 2
          have y1 := hr3.lt
          have Hr3 := Lib.hid hr3
          have HSz := Lib.hid hSz
          clear hr3 hSz
          go_wp2
          refine bodyPost_ret (does_results (n := (numF (reckF .div a.n b.n)).2) (Hr3.out.set3 (numF (reckF .div a.n b.n)).1) rfl rfl) rfl (ValEP.mk' HE.out ?_)
          exact (HS.out.trans HSz.out).set3 (fun h => by omega) _ _ _
set_option maxHeartbeats 4000000 in
theorem does_mod (A : Option Addr) (cp : Nat) (a b : Val) (S : Nat → Prop) (w : World) (hv : VaR w S (.slice A 2 cp) [a, b]) (hc : 2 ≤ cp) (hm : cp ≤ maxLen) (ha : i64B a.n = true) (hb : i64B b.n = true) : Calls Try.prog 38 #[.string (str [37]), .slice A 2 cp] w (ValEP (if a.kind = 0 ∨ b.kind = 0 then (.zero, 0) else numF (reckF .mod a.n b.n)) w) := by
  unfold maxLen at hm
  have Hv := Lib.hid hv
  have hr0 := Row.new w 23 (valCs .zero)
  have hS0 := (Same.refl (fun _ => True) w).alloc (.cells (valCs .zero).toArray 23)
  have Hr0 := Lib.hid hr0
  have HS0 := Lib.hid hS0
  obtain ⟨D, hD⟩ : ∃ D, (if a.kind = 0 ∨ b.kind = 0 then ((.zero, 0) : Val × Int) else numF (reckF .mod a.n b.n)) = D := ⟨_, rfl⟩
  rw [hD]
  have HN : Hid ((∃ x ∈ [a, b], x.kind = 0) → D = (.zero, 0)) := fun ⟨x, hx, h0⟩ => by
    rw [← hD, if_pos]
    simp only [List.mem_cons, List.not_mem_nil, or_false] at hx; rcases hx with rfl | rfl; exact .inl h0; exact .inr h0
  have HF : Hid ((∀ x ∈ [a, b], x.kind ≠ 0) → D = numF (reckF .mod a.n b.n)) := fun h => by
    rw [← hD, if_neg]
    rintro (h0 | h0); exact h a (by simp) h0; exact h b (by simp) h0
  clear hD hv hr0 hS0
  obtain ⟨l, hl⟩ : ∃ l, l = [a, b] := ⟨_, rfl⟩
  have hln : l.length = 2 := by rw [hl]; rfl
  have Hl := Lib.hid hl
  have Hln := Lib.hid hln
  clear hl hln
  have HA := Lib.hid ha
  have HB := Lib.hid hb
  clear ha hb
  go_enter Try.func38, Try.ntmps38
  go_wp2
  go_loopw [7, 34] (fun _ i wr => ∃ (j : Nat), j ≤ 2 ∧ i = .int .i64 j ∧ (∀ x ∈ l.take j, x.kind ≠ 0) ∧ Row wr w.heap.size 23 (valCs .zero) ∧ Same (fun _ => True) w wr) (fun _ i _ => 2 - (intOf i).toNat)
  case atStart => exact ⟨0, Nat.zero_le _, rfl, by simp, Hr0.out, HS0.out⟩
  case round =>
    obtain ⟨j, hj, rfl, hall, hr, hS⟩ := hrel
    have Hall := Lib.hid hall
    have Hr := Lib.hid hr
    have HS := Lib.hid hS
    clear hall
    by_cases hlt : j < 2
    · have hjl : j < l.length := by rw [Hln.out]; exact hlt
      have hvj : VaR wr S (.slice A 2 cp) l := by rw [Hl.out]; exact RowR.keepAll Hv.out hS
      obtain ⟨ad, rfl, -, d0, d1, d2⟩ := VaR.cells hvj hjl
      have x1 : (0 : Int) ≤ (j : Int) := by omega
      have x2 : (j : Int) < 2 := by omega
      have htk : l.take (j + 1) = l.take j ++ [l[j]] := List.take_succ_eq_append_getElem hjl
      have hmem : l[j] ∈ l := List.getElem_mem hjl
      generalize l[j] = x at *
      have Htk := Lib.hid htk
      have Hmem := Lib.hid hmem
      have hx := Row.new wr 23 (valCs x)
      have hSx := (Same.refl (fun _ => True) wr).alloc (.cells (valCs x).toArray 23)
      have HSx := Lib.hid hSx
      have gn := fun W => exnull_any x W
      have hz := hr.lt
      clear hx hSx hr hS htk hmem hvj hjl
      by_cases h1 : x.kind = 0
      · have q1 : decide (x.kind = 0) = true := by simpa using h1
        rw [q1] at gn
        have H1 := Lib.hid h1
        clear h1 q1
        go_wp2_with (go_at_call 51; refine stopAt ?_)
        unfold Hid
        refine (gn _).mono ?_
        rintro e w3 ⟨rfl, hS3⟩
        have hS4 := HSx.out.trans hS3
        have hr3 := Hr.out.keep hS4 trivial
        have r0 : w3.cell? ⟨w.heap.size, 0, none⟩ = some (.int .i64 0) := hr3.cell 0
        have r1 : w3.cell? ⟨w.heap.size, 1, none⟩ = some (.int .i64 0) := hr3.cell 1
        have r2 : w3.cell? ⟨w.heap.size, 2, none⟩ = some (.string (str [])) := hr3.cell 2
        have f0 : w3.frozen? ⟨w.heap.size, 0, none⟩ = false := hr3.frozen 0
        have f1 : w3.frozen? ⟨w.heap.size, 1, none⟩ = false := hr3.frozen 1
        have f2 : w3.frozen? ⟨w.heap.size, 2, none⟩ = false := hr3.frozen 2
        have y1 := hr3.lt
        have Hr3 := Lib.hid hr3
        have HS4 := Lib.hid hS4
        clear hS4 hr3 hS3 hz
        go_wp2
        refine bodyPost_ret (does_results (n := 0) (Hr3.out.set3 .zero) rfl rfl) rfl (ValEP.mk' (HN.out ⟨x, by have := Hmem.out; rwa [Hl.out] at this, H1.out⟩) ?_)
        exact (HS.out.trans HS4.out).set3 (fun h => by omega) _ _ _
      · have q1 : decide (x.kind = 0) = false := by simpa using h1
        rw [q1] at gn
        have H1 := Lib.hid h1
        clear h1 q1
        go_wp2_with (go_at_call 51; refine stopAt ?_)
        unfold Hid
        refine (gn _).mono ?_
        rintro e w3 ⟨rfl, hS3⟩
        have HS3 := Lib.hid (HSx.out.trans hS3)
        clear hS3
        go_wp2
        go_roundw
        case rel =>
          refine ⟨j + 1, by omega, by go_num, fun y hy => ?_, Hr.out.keep HS3.out trivial, HS.out.trans HS3.out⟩
          rw [Htk.out] at hy
          rcases List.mem_append.1 hy with hy | hy
          · exact Hall.out y hy
          · simp only [List.mem_cons, List.not_mem_nil, or_false] at hy
            rw [hy]; exact H1.out
        case measure => simp [intOf]; omega
    · obtain rfl : j = 2 := by omega
      have hE : D = numF (reckF .mod a.n b.n) := HF.out fun x hx => Hall.out x (by rw [List.take_of_length_le (by rw [Hln.out]; omega), Hl.out]; exact hx)
      obtain ⟨ad, rfl, -, d0, d1, d2, b0, b1, b2⟩ := VaR.two (RowR.keepAll Hv.out hS)
      have HE := Lib.hid hE
      have z1 := hr.lt
      clear hE hr hS
      go_wp2
      refine wp_region_tail_lit (L := [.eq (.string (str [37])), .eq (.slice (some ad) 2 cp), .eq (.pointer (some ad)), .eq (.pointer (some ⟨ad.block, ad.off + 1, none⟩)), .eq (.int .i64 a.n), .eq (.slice (some ad) 2 cp), .eq (.pointer (some ⟨ad.block, ad.off + 3, none⟩)), .eq (.pointer (some ⟨ad.block, ad.off + 4, none⟩)), .eq (.int .i64 b.n), .eq (.tuple #[.int .i64 (reckF .mod a.n b.n).1, .int .i64 (reckF .mod a.n b.n).2]), .eq (.int .i64 (reckF .mod a.n b.n).1), .eq (.int .i64 (reckF .mod a.n b.n).2), .eq (.tuple #[valV (numF (reckF .mod a.n b.n)).1, .int .i64 (numF (reckF .mod a.n b.n)).2]), .eq (valV (numF (reckF .mod a.n b.n)).1), .eq (.int .i64 (numF (reckF .mod a.n b.n)).2)]) 15 (by kernel_rfl) (by kernel_rfl) rfl rfl rfl ?_ ?_
      · refine ⟨?_, ?_, ?_, ?_, ?_, ?_, ?_, ?_, ?_, ?_, ?_, ?_, ?_, ?_, ?_, trivial⟩
        · intro ac wc hs hd hz hf hw K hK
          have e0 : ac.eval (.tmp 0) = (.string (str [37])) := hf 0 rfl
          clear hd hz hf hw
          simp only [Region.wanted, if_true, Oper.wp, execOp, resolve, List.map_toArray, List.map_cons, List.map_nil, Option.map_some, Option.map_none, e0]
          go_simp
          exact hK _ _ rfl (Same.refl _ _)
        · intro ac wc hs hd hz hf hw K hK
          have e0 : ac.eval (.tmp 1) = (.slice (some ad) 2 cp) := hf 1 rfl
          clear hd hz hf hw
          simp only [Region.wanted, if_true, Oper.wp, execOp, resolve, List.map_toArray, List.map_cons, List.map_nil, Option.map_some, Option.map_none, e0]
          go_simp
          exact hK _ _ rfl (Same.refl _ _)
        · intro ac wc hs hd hz hf hw K hK
          have e0 : ac.eval (.tmp 81) = (.slice (some ad) 2 cp) := hw 1 rfl
          clear hd hz hf hw
          simp only [Region.wanted, if_true, Oper.wp, execOp, resolve, List.map_toArray, List.map_cons, List.map_nil, Option.map_some, Option.map_none, e0]
          go_simp
          exact hK _ _ rfl (Same.refl _ _)
        · intro ac wc hs hd hz hf hw K hK
          have e0 : ac.eval (.tmp 82) = (.pointer (some ad)) := hw 2 rfl
          clear hd hz hf hw
          simp only [Region.wanted, if_true, Oper.wp, execOp, resolve, List.map_toArray, List.map_cons, List.map_nil, Option.map_some, Option.map_none, e0]
          go_simp
          exact hK _ _ rfl (Same.refl _ _)
        · intro ac wc hs hd hz hf hw K hK
          have e0 : ac.eval (.tmp 83) = (.pointer (some ⟨ad.block, ad.off + 1, none⟩)) := hw 3 rfl
          have m0 : wc.cell? ⟨ad.block, ad.off + 1, none⟩ = some (.int .i64 a.n) := hs.cell (p := ⟨ad.block, ad.off + 1, none⟩) trivial d1
          clear hd hz hf hw
          simp only [Region.wanted, if_true, Oper.wp, execOp, resolve, List.map_toArray, List.map_cons, List.map_nil, Option.map_some, Option.map_none, e0]
          go_simp
          exact hK _ _ rfl (Same.refl _ _)
        · intro ac wc hs hd hz hf hw K hK
          have e0 : ac.eval (.tmp 1) = (.slice (some ad) 2 cp) := hf 1 rfl
          clear hd hz hf hw
          simp only [Region.wanted, if_true, Oper.wp, execOp, resolve, List.map_toArray, List.map_cons, List.map_nil, Option.map_some, Option.map_none, e0]
          go_simp
          exact hK _ _ rfl (Same.refl _ _)
        · intro ac wc hs hd hz hf hw K hK
          have e0 : ac.eval (.tmp 85) = (.slice (some ad) 2 cp) := hw 5 rfl
          clear hd hz hf hw
          simp only [Region.wanted, if_true, Oper.wp, execOp, resolve, List.map_toArray, List.map_cons, List.map_nil, Option.map_some, Option.map_none, e0]
          go_simp
          exact hK _ _ rfl (Same.refl _ _)
        · intro ac wc hs hd hz hf hw K hK
          have e0 : ac.eval (.tmp 86) = (.pointer (some ⟨ad.block, ad.off + 3, none⟩)) := hw 6 rfl
          clear hd hz hf hw
          simp only [Region.wanted, if_true, Oper.wp, execOp, resolve, List.map_toArray, List.map_cons, List.map_nil, Option.map_some, Option.map_none, e0]
          go_simp
          exact hK _ _ rfl (Same.refl _ _)
        · intro ac wc hs hd hz hf hw K hK
          have e0 : ac.eval (.tmp 87) = (.pointer (some ⟨ad.block, ad.off + 4, none⟩)) := hw 7 rfl
          have m0 : wc.cell? ⟨ad.block, ad.off + 4, none⟩ = some (.int .i64 b.n) := hs.cell (p := ⟨ad.block, ad.off + 4, none⟩) trivial b1
          clear hd hz hf hw
          simp only [Region.wanted, if_true, Oper.wp, execOp, resolve, List.map_toArray, List.map_cons, List.map_nil, Option.map_some, Option.map_none, e0]
          go_simp
          exact hK _ _ rfl (Same.refl _ _)
        · intro ac wc hs hd hz hf hw K hK
          have e0 : ac.eval (.tmp 80) = (.string (str [37])) := hw 0 rfl
          have e1 : ac.eval (.tmp 84) = (.int .i64 a.n) := hw 4 rfl
          have e2 : ac.eval (.tmp 88) = (.int .i64 b.n) := hw 8 rfl
          clear hd hz hf hw
          simp only [Region.wanted, if_true, Oper.wp, execOp, resolve, List.map_toArray, List.map_cons, List.map_nil, Option.map_some, Option.map_none, e0, e1, e2]
          go_simp
          refine (exreckon_any [37] a.n b.n HA.out HB.out _).mono ?_
          rintro e wd ⟨rfl, rfl⟩
          exact hK _ _ rfl (Same.refl _ _)
        · intro ac wc hs hd hz hf hw K hK
          have e0 : ac.eval (.tmp 89) = (.tuple #[.int .i64 (reckF .mod a.n b.n).1, .int .i64 (reckF .mod a.n b.n).2]) := hw 9 rfl
          clear hd hz hf hw
          simp only [Region.wanted, if_true, Oper.wp, execOp, resolve, List.map_toArray, List.map_cons, List.map_nil, Option.map_some, Option.map_none, e0]
          go_simp
          exact hK _ _ rfl (Same.refl _ _)
        · intro ac wc hs hd hz hf hw K hK
          have e0 : ac.eval (.tmp 89) = (.tuple #[.int .i64 (reckF .mod a.n b.n).1, .int .i64 (reckF .mod a.n b.n).2]) := hw 9 rfl
          clear hd hz hf hw
          simp only [Region.wanted, if_true, Oper.wp, execOp, resolve, List.map_toArray, List.map_cons, List.map_nil, Option.map_some, Option.map_none, e0]
          go_simp
          exact hK _ _ rfl (Same.refl _ _)
        · intro ac wc hs hd hz hf hw K hK
          have e0 : ac.eval (.tmp 90) = (.int .i64 (reckF .mod a.n b.n).1) := hw 10 rfl
          have e1 : ac.eval (.tmp 91) = (.int .i64 (reckF .mod a.n b.n).2) := hw 11 rfl
          clear hd hz hf hw
          simp only [Region.wanted, if_true, Oper.wp, execOp, resolve, List.map_toArray, List.map_cons, List.map_nil, Option.map_some, Option.map_none, e0, e1]
          go_simp
          refine (exnumber_any (reckF .mod a.n b.n).1 (reckF .mod a.n b.n).2 _).mono ?_
          rintro e wd ⟨rfl, hs2⟩
          exact hK _ _ rfl hs2
        · intro ac wc hs hd hz hf hw K hK
          have e0 : ac.eval (.tmp 92) = (.tuple #[valV (numF (reckF .mod a.n b.n)).1, .int .i64 (numF (reckF .mod a.n b.n)).2]) := hw 12 rfl
          clear hd hz hf hw
          simp only [Region.wanted, if_true, Oper.wp, execOp, resolve, List.map_toArray, List.map_cons, List.map_nil, Option.map_some, Option.map_none, e0]
          go_simp
          exact hK _ _ rfl (Same.refl _ _)
        · intro ac wc hs hd hz hf hw K hK
          have e0 : ac.eval (.tmp 92) = (.tuple #[valV (numF (reckF .mod a.n b.n)).1, .int .i64 (numF (reckF .mod a.n b.n)).2]) := hw 12 rfl
          clear hd hz hf hw
          simp only [Region.wanted, if_true, Oper.wp, execOp, resolve, List.map_toArray, List.map_cons, List.map_nil, Option.map_some, Option.map_none, e0]
          go_simp
          exact hK _ _ rfl (Same.refl _ _)
      · intro vs wR hvl hvp hsR
        rcases vs with _ | ⟨z0, _ | ⟨z1, _ | ⟨z2, _ | ⟨z3, _ | ⟨z4, _ | ⟨z5, _ | ⟨z6, _ | ⟨z7, _ | ⟨z8, _ | ⟨z9, _ | ⟨z10, _ | ⟨z11, _ | ⟨z12, _ | ⟨z13, _ | ⟨z14, _ | ⟨zz, zr⟩⟩⟩⟩⟩⟩⟩⟩⟩⟩⟩⟩⟩⟩⟩⟩
        rotate_right 1
        · simp at hvl
        · simp at hvl
        · simp at hvl
        · simp at hvl
        · simp at hvl
        · simp at hvl
        · simp at hvl
        · simp at hvl
        · simp at hvl
        · simp at hvl
        · simp at hvl
        · simp at hvl
        · simp at hvl
        · simp at hvl
        · simp at hvl
        · simp at hvl
        · obtain rfl : z0 = (.string (str [37])) := hvp 0 (by omega)
          obtain rfl : z1 = (.slice (some ad) 2 cp) := hvp 1 (by omega)
          obtain rfl : z2 = (.pointer (some ad)) := hvp 2 (by omega)
          obtain rfl : z3 = (.pointer (some ⟨ad.block, ad.off + 1, none⟩)) := hvp 3 (by omega)
          obtain rfl : z4 = (.int .i64 a.n) := hvp 4 (by omega)
          obtain rfl : z5 = (.slice (some ad) 2 cp) := hvp 5 (by omega)
          obtain rfl : z6 = (.pointer (some ⟨ad.block, ad.off + 3, none⟩)) := hvp 6 (by omega)
          obtain rfl : z7 = (.pointer (some ⟨ad.block, ad.off + 4, none⟩)) := hvp 7 (by omega)
          obtain rfl : z8 = (.int .i64 b.n) := hvp 8 (by omega)
          obtain rfl : z9 = (.tuple #[.int .i64 (reckF .mod a.n b.n).1, .int .i64 (reckF .mod a.n b.n).2]) := hvp 9 (by omega)
          obtain rfl : z10 = (.int .i64 (reckF .mod a.n b.n).1) := hvp 10 (by omega)
          obtain rfl : z11 = (.int .i64 (reckF .mod a.n b.n).2) := hvp 11 (by omega)
          obtain rfl : z12 = (.tuple #[valV (numF (reckF .mod a.n b.n)).1, .int .i64 (numF (reckF .mod a.n b.n)).2]) := hvp 12 (by omega)
          obtain rfl : z13 = (valV (numF (reckF .mod a.n b.n)).1) := hvp 13 (by omega)
          obtain rfl : z14 = (.int .i64 (numF (reckF .mod a.n b.n)).2) := hvp 14 (by omega)
          clear hvl hvp
          simp only [putAll, Act.put, List.setIfInBounds_toArray, List.set_cons_succ, List.set_cons_zero, List.take_succ_cons, List.take_zero, List.drop_succ_cons, List.drop_zero, List.eraseIdx_cons_succ, List.eraseIdx_cons_zero]
          have hSz := hsR
          clear hsR
          have hr3 := Hr.out.keep hSz trivial
          have r0 : wR.cell? ⟨w.heap.size, 0, none⟩ = some (.int .i64 0) := hr3.cell 0
          have r1 : wR.cell? ⟨w.heap.size, 1, none⟩ = some (.int .i64 0) := hr3.cell 1
          have r2 : wR.cell? ⟨w.heap.size, 2, none⟩ = some (.string (str [])) := hr3.cell 2
          have f0 : wR.frozen? ⟨w.heap.size, 0, none⟩ = false := hr3.frozen 0
          have f1 : wR.frozen? ⟨w.heap.size, 1, none⟩ = false := hr3.frozen 1
          have f2 : wR.frozen? ⟨w.heap.size, 2, none⟩ = false := hr3.frozen 2
          have y1 := hr3.lt
          have Hr3 := Lib.hid hr3
          have HSz := Lib.hid hSz
          clear hr3 hSz
          go_wp2
          refine bodyPost_ret (does_results (n := (numF (reckF .mod a.n b.n)).2) (Hr3.out.set3 (numF (reckF .mod a.n b.n)).1) rfl rfl) rfl (ValEP.mk' HE.out ?_)
          exact (HS.out.trans HSz.out).set3 (fun h => by omega) _ _ _
theorem exdoes_any (v : Value) (s : List UInt8) (l : List Val) (S : Nat → Prop) (w : World) (hv : VaR w S v l) (ho : opk s ≠ .none) (hl : l.length = argsF (opk s)) (hi : ∀ x ∈ l, i64B x.n = true) :
    Calls Try.prog 38 #[.string (str s), v] w (ValEP (doesF (opk s) l) w) := by
  obtain ⟨A, cp, rfl, hc, hm⟩ := hv.form
  rcases op_cases s with rfl | rfl | rfl | rfl | rfl | rfl | rfl | rfl | rfl | rfl | rfl | rfl | rfl | rfl | rfl | rfl | rfl | hn
  rotate_right 1
  · exact absurd (opk_none hn) ho
  · match l, hl with
    | [a], _ =>
      have hA := hi a (by simp)
      exact does_isnull A cp a S w hv hc hm
  · match l, hl with
    | [a], _ =>
      have hA := hi a (by simp)
      exact does_notnull A cp a S w hv hc hm
  · match l, hl with
    | [a], _ =>
      have hA := hi a (by simp)
      exact does_not A cp a S w hv hc hm
  · match l, hl with
    | [a], _ =>
      have hA := hi a (by simp)
      exact does_neg A cp a S w hv hc hm hA
  · match l, hl with
    | [a, b], _ =>
      have hA := hi a (by simp)
      have hB := hi b (by simp)
      exact does_or A cp a b S w hv hc hm
  · match l, hl with
    | [a, b], _ =>
      have hA := hi a (by simp)
      have hB := hi b (by simp)
      exact does_and A cp a b S w hv hc hm
  · match l, hl with
    | [a, b], _ =>
      have hA := hi a (by simp)
      have hB := hi b (by simp)
      exact does_add A cp a b S w hv hc hm hA hB
  · match l, hl with
    | [a, b], _ =>
      have hA := hi a (by simp)
      have hB := hi b (by simp)
      exact does_sub A cp a b S w hv hc hm hA hB
  · match l, hl with
    | [a, b], _ =>
      have hA := hi a (by simp)
      have hB := hi b (by simp)
      exact does_mul A cp a b S w hv hc hm hA hB
  · match l, hl with
    | [a, b], _ =>
      have hA := hi a (by simp)
      have hB := hi b (by simp)
      exact does_div A cp a b S w hv hc hm hA hB
  · match l, hl with
    | [a, b], _ =>
      have hA := hi a (by simp)
      have hB := hi b (by simp)
      exact does_mod A cp a b S w hv hc hm hA hB
  · match l, hl with
    | [a, b], _ =>
      have hA := hi a (by simp)
      have hB := hi b (by simp)
      exact does_eq A cp a b S w hv hc hm
  · match l, hl with
    | [a, b], _ =>
      have hA := hi a (by simp)
      have hB := hi b (by simp)
      exact does_ne A cp a b S w hv hc hm
  · match l, hl with
    | [a, b], _ =>
      have hA := hi a (by simp)
      have hB := hi b (by simp)
      exact does_lt A cp a b S w hv hc hm
  · match l, hl with
    | [a, b], _ =>
      have hA := hi a (by simp)
      have hB := hi b (by simp)
      exact does_le A cp a b S w hv hc hm
  · match l, hl with
    | [a, b], _ =>
      have hA := hi a (by simp)
      have hB := hi b (by simp)
      exact does_gt A cp a b S w hv hc hm
  · match l, hl with
    | [a, b], _ =>
      have hA := hi a (by simp)
      have hB := hi b (by simp)
      exact does_ge A cp a b S w hv hc hm
end Go.Proofs.Ytakbikibahhepaa
