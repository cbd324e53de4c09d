/-
  The walks of the document's both and number.
-/
import Derived.Test.YtakbikibahhepaaExW16
set_option linter.unusedSimpArgs false
set_option linter.unusedVariables false
namespace Go.Proofs.Ytakbikibahhepaa
open Go.RowKit

/-- The document's both, of truths of three. -/
def bothT (strong a b : Int) : Val := if a = strong ∨ b = strong then truthV (decide (strong = 1)) else if a = 2 ∨ b = 2 then .zero else truthV (decide (strong = 0))
theorem truth_of {v : Val} (h : mayV v = true) (hk : v.kind = 1) : v = truthV (decide (v.n = 1)) := by
  obtain ⟨k, n, s⟩ := v
  have hk : k = 1 := hk
  subst hk
  have e : mayV ⟨1, n, s⟩ = ((decide (n = 0) || decide (n = 1)) && decide (s = [])) := rfl
  rw [e] at h
  simp only [Bool.and_eq_true, Bool.or_eq_true, decide_eq_true_eq] at h
  obtain ⟨hn, rfl⟩ := h
  rcases hn with rfl | rfl <;> rfl
theorem bothT_eq {strong : Int} (hs : strong = 0 ∨ strong = 1) {a b : Val} (ha : mayV a = true) (hb : mayV b = true) (ka : a.kind = 1 ∨ a.kind = 0) (kb : b.kind = 1 ∨ b.kind = 0) : bothT strong (threeF a) (threeF b) = bothF strong a b := by
  have ta : ∀ v : Val, mayV v = true → (v.kind = 1 ∨ v.kind = 0) → (v.kind = 0 ∧ threeF v = 2) ∨ (v.kind = 1 ∧ v.n = 0 ∧ threeF v = 0 ∧ v = truthV false) ∨ (v.kind = 1 ∧ v.n = 1 ∧ threeF v = 1 ∧ v = truthV true) := fun v hm hk => by
    rcases hk with hk | hk
    · have e := truth_of hm hk
      by_cases hn : v.n = 1
      · right; right
        refine ⟨hk, hn, ?_, ?_⟩
        · unfold threeF; rw [if_neg (by omega)]; exact hn
        · rw [e, hn]; rfl
      · right; left
        have e2 : v = truthV false := by rw [e]; simp [hn]
        have hn0 : v.n = 0 := by rw [e2]; rfl
        exact ⟨hk, hn0, by unfold threeF; rw [if_neg (by omega)]; exact hn0, e2⟩
    · left; exact ⟨hk, by unfold threeF; rw [if_pos hk]⟩
  rcases ta a ha ka with ⟨h1, h2⟩ | ⟨h1, h2, h3, h4⟩ | ⟨h1, h2, h3, h4⟩ <;> rcases ta b hb kb with ⟨g1, g2⟩ | ⟨g1, g2, g3, g4⟩ | ⟨g1, g2, g3, g4⟩ <;> rcases hs with rfl | rfl <;>
    (unfold bothT bothF; simp_all)
theorem refboth_results {W : World} {k : Nat} {v : Val} (R : Row W k 23 (valCs v)) {tmps : Array Value} (h1 : tmps.getD 6 undef = .pointer (some ⟨k, 0, none⟩)) :
    (results Try.f40 tmps).run Try.prog W = .ok (valV v) W := by
  have d0 : W.cell? ⟨k, 0, none⟩ = some (.int .i64 v.kind) := R.cell 0
  have d1 : W.cell? ⟨k, 1, none⟩ = some (.int .i64 v.n) := R.cell 1
  have d2 : W.cell? ⟨k, 2, none⟩ = some (.string (str v.s)) := R.cell 2
  simp at h1
  simp [results, Try.results40, h1, go_sem, d0, d1, d2]
set_option maxHeartbeats 4000000 in
theorem refboth_and (a b : Int) (w : World) : Calls Try.prog 40 #[.string (str [65, 78, 68]), .int .i64 a, .int .i64 b] w (ValP (bothT 0 a b) w) := by
  obtain ⟨V, hV⟩ : ∃ V, bothT 0 a b = V := ⟨_, rfl⟩
  rw [hV]
  have HV := Lib.hid (show V = if a = 0 ∨ b = 0 then truthV (decide ((0 : Int) = 1)) else if a = 2 ∨ b = 2 then .zero else truthV (decide ((0 : Int) = 0)) by rw [← hV]; rfl)
  clear hV
  have gt := fun B W => reftruth_any B W
  have hr0 := Lib.hid (Row.new w 23 (valCs .zero))
  have hS0 := Lib.hid ((Same.refl (fun _ => True) w).alloc (.cells (valCs .zero).toArray 23))
  obtain ⟨A1, hA1⟩ : ∃ B, decide (a = 0) = B := ⟨_, rfl⟩
  obtain ⟨B1, hB1⟩ : ∃ B, decide (b = 0) = B := ⟨_, rfl⟩
  obtain ⟨A2, hA2⟩ : ∃ B, decide (a = 2) = B := ⟨_, rfl⟩
  obtain ⟨B2, hB2⟩ : ∃ B, decide (b = 2) = B := ⟨_, rfl⟩
  have a1 : (a == 0) = A1 := hA1
  have b1 : (b == 0) = B1 := hB1
  have a2 : (a == 2) = A2 := hA2
  have b2 : (b == 2) = B2 := hB2
  have HA1 := Lib.hid hA1
  have HB1 := Lib.hid hB1
  have HA2 := Lib.hid hA2
  have HB2 := Lib.hid hB2
  clear hA1 hB1 hA2 hB2
  cases A1
  · cases B1
    · cases A2
      · cases B2
        · go_enter Try.func40, Try.ntmps40
          go_wp2_with (go_at_call 39; refine stopAt ?_)
          unfold Hid
          refine (gt _ _).mono ?_
          rintro e' w1 ⟨rfl, hS1⟩
          have hr1 := hr0.out.keep hS1 trivial
          have r0 : w1.cell? ⟨w.heap.size, 0, none⟩ = some (.int .i64 0) := hr1.cell 0
          have r1 : w1.cell? ⟨w.heap.size, 1, none⟩ = some (.int .i64 0) := hr1.cell 1
          have r2 : w1.cell? ⟨w.heap.size, 2, none⟩ = some (.string (str [])) := hr1.cell 2
          have f0 := hr1.frozen 0
          have f1 := hr1.frozen 1
          have f2 := hr1.frozen 2
          have z1 := hr1.lt
          have Hr1 := Lib.hid hr1
          have HS1 := Lib.hid hS1
          clear hr1 hS1
          go_wp2
          refine bodyPost_ret (refboth_results (Hr1.out.set3 (truthV _)) rfl) rfl ⟨by rw [HV.out, if_neg (by rintro (h | h); exact of_decide_eq_false HA1.out h; exact of_decide_eq_false HB1.out h), if_neg (by rintro (h | h); exact of_decide_eq_false HA2.out h; exact of_decide_eq_false HB2.out h)]; rfl, ?_⟩
          exact (hS0.out.trans HS1.out).set3 (fun h => by omega) _ _ _
        · go_enter Try.func40, Try.ntmps40
          go_wp2
          refine bodyPost_ret (v := valV .zero) ?_ rfl ⟨by rw [HV.out, if_neg (by rintro (h | h); exact of_decide_eq_false HA1.out h; exact of_decide_eq_false HB1.out h), if_pos (.inr (of_decide_eq_true HB2.out))], ?_⟩
          · simp [results, Try.results40, go_sem, Val.zero, str]
          · exact (Same.refl _ _).alloc _
      · go_enter Try.func40, Try.ntmps40
        go_wp2
        refine bodyPost_ret (v := valV .zero) ?_ rfl ⟨by rw [HV.out, if_neg (by rintro (h | h); exact of_decide_eq_false HA1.out h; exact of_decide_eq_false HB1.out h), if_pos (.inl (of_decide_eq_true HA2.out))], ?_⟩
        · simp [results, Try.results40, go_sem, Val.zero, str]
        · exact (Same.refl _ _).alloc _
    · go_enter Try.func40, Try.ntmps40
      go_wp2_with (go_at_call 39; refine stopAt ?_)
      unfold Hid
      refine (gt _ _).mono ?_
      rintro e' w1 ⟨rfl, hS1⟩
      have hr1 := hr0.out.keep hS1 trivial
      have r0 : w1.cell? ⟨w.heap.size, 0, none⟩ = some (.int .i64 0) := hr1.cell 0
      have r1 : w1.cell? ⟨w.heap.size, 1, none⟩ = some (.int .i64 0) := hr1.cell 1
      have r2 : w1.cell? ⟨w.heap.size, 2, none⟩ = some (.string (str [])) := hr1.cell 2
      have f0 := hr1.frozen 0
      have f1 := hr1.frozen 1
      have f2 := hr1.frozen 2
      have z1 := hr1.lt
      have Hr1 := Lib.hid hr1
      have HS1 := Lib.hid hS1
      clear hr1 hS1
      go_wp2
      refine bodyPost_ret (refboth_results (Hr1.out.set3 (truthV _)) rfl) rfl ⟨by rw [HV.out, if_pos (.inr (of_decide_eq_true HB1.out))]; rfl, ?_⟩
      exact (hS0.out.trans HS1.out).set3 (fun h => by omega) _ _ _
  · go_enter Try.func40, Try.ntmps40
    go_wp2_with (go_at_call 39; refine stopAt ?_)
    unfold Hid
    refine (gt _ _).mono ?_
    rintro e' w1 ⟨rfl, hS1⟩
    have hr1 := hr0.out.keep hS1 trivial
    have r0 : w1.cell? ⟨w.heap.size, 0, none⟩ = some (.int .i64 0) := hr1.cell 0
    have r1 : w1.cell? ⟨w.heap.size, 1, none⟩ = some (.int .i64 0) := hr1.cell 1
    have r2 : w1.cell? ⟨w.heap.size, 2, none⟩ = some (.string (str [])) := hr1.cell 2
    have f0 := hr1.frozen 0
    have f1 := hr1.frozen 1
    have f2 := hr1.frozen 2
    have z1 := hr1.lt
    have Hr1 := Lib.hid hr1
    have HS1 := Lib.hid hS1
    clear hr1 hS1
    go_wp2
    refine bodyPost_ret (refboth_results (Hr1.out.set3 (truthV _)) rfl) rfl ⟨by rw [HV.out, if_pos (.inl (of_decide_eq_true HA1.out))]; rfl, ?_⟩
    exact (hS0.out.trans HS1.out).set3 (fun h => by omega) _ _ _
set_option maxHeartbeats 4000000 in
theorem refboth_or (a b : Int) (w : World) : Calls Try.prog 40 #[.string (str [79, 82]), .int .i64 a, .int .i64 b] w (ValP (bothT 1 a b) w) := by
  obtain ⟨V, hV⟩ : ∃ V, bothT 1 a b = V := ⟨_, rfl⟩
  rw [hV]
  have HV := Lib.hid (show V = if a = 1 ∨ b = 1 then truthV (decide ((1 : Int) = 1)) else if a = 2 ∨ b = 2 then .zero else truthV (decide ((1 : Int) = 0)) by rw [← hV]; rfl)
  clear hV
  have gt := fun B W => reftruth_any B W
  have hr0 := Lib.hid (Row.new w 23 (valCs .zero))
  have hS0 := Lib.hid ((Same.refl (fun _ => True) w).alloc (.cells (valCs .zero).toArray 23))
  obtain ⟨A1, hA1⟩ : ∃ B, decide (a = 1) = B := ⟨_, rfl⟩
  obtain ⟨B1, hB1⟩ : ∃ B, decide (b = 1) = B := ⟨_, rfl⟩
  obtain ⟨A2, hA2⟩ : ∃ B, decide (a = 2) = B := ⟨_, rfl⟩
  obtain ⟨B2, hB2⟩ : ∃ B, decide (b = 2) = B := ⟨_, rfl⟩
  have a1 : (a == 1) = A1 := hA1
  have b1 : (b == 1) = B1 := hB1
  have a2 : (a == 2) = A2 := hA2
  have b2 : (b == 2) = B2 := hB2
  have HA1 := Lib.hid hA1
  have HB1 := Lib.hid hB1
  have HA2 := Lib.hid hA2
  have HB2 := Lib.hid hB2
  clear hA1 hB1 hA2 hB2
  cases A1
  · cases B1
    · cases A2
      · cases B2
        · go_enter Try.func40, Try.ntmps40
          go_wp2_with (go_at_call 39; refine stopAt ?_)
          unfold Hid
          refine (gt _ _).mono ?_
          rintro e' w1 ⟨rfl, hS1⟩
          have hr1 := hr0.out.keep hS1 trivial
          have r0 : w1.cell? ⟨w.heap.size, 0, none⟩ = some (.int .i64 0) := hr1.cell 0
          have r1 : w1.cell? ⟨w.heap.size, 1, none⟩ = some (.int .i64 0) := hr1.cell 1
          have r2 : w1.cell? ⟨w.heap.size, 2, none⟩ = some (.string (str [])) := hr1.cell 2
          have f0 := hr1.frozen 0
          have f1 := hr1.frozen 1
          have f2 := hr1.frozen 2
          have z1 := hr1.lt
          have Hr1 := Lib.hid hr1
          have HS1 := Lib.hid hS1
          clear hr1 hS1
          go_wp2
          refine bodyPost_ret (refboth_results (Hr1.out.set3 (truthV _)) rfl) rfl ⟨by rw [HV.out, if_neg (by rintro (h | h); exact of_decide_eq_false HA1.out h; exact of_decide_eq_false HB1.out h), if_neg (by rintro (h | h); exact of_decide_eq_false HA2.out h; exact of_decide_eq_false HB2.out h)]; rfl, ?_⟩
          exact (hS0.out.trans HS1.out).set3 (fun h => by omega) _ _ _
        · go_enter Try.func40, Try.ntmps40
          go_wp2
          refine bodyPost_ret (v := valV .zero) ?_ rfl ⟨by rw [HV.out, if_neg (by rintro (h | h); exact of_decide_eq_false HA1.out h; exact of_decide_eq_false HB1.out h), if_pos (.inr (of_decide_eq_true HB2.out))], ?_⟩
          · simp [results, Try.results40, go_sem, Val.zero, str]
          · exact (Same.refl _ _).alloc _
      · go_enter Try.func40, Try.ntmps40
        go_wp2
        refine bodyPost_ret (v := valV .zero) ?_ rfl ⟨by rw [HV.out, if_neg (by rintro (h | h); exact of_decide_eq_false HA1.out h; exact of_decide_eq_false HB1.out h), if_pos (.inl (of_decide_eq_true HA2.out))], ?_⟩
        · simp [results, Try.results40, go_sem, Val.zero, str]
        · exact (Same.refl _ _).alloc _
    · go_enter Try.func40, Try.ntmps40
      go_wp2_with (go_at_call 39; refine stopAt ?_)
      unfold Hid
      refine (gt _ _).mono ?_
      rintro e' w1 ⟨rfl, hS1⟩
      have hr1 := hr0.out.keep hS1 trivial
      have r0 : w1.cell? ⟨w.heap.size, 0, none⟩ = some (.int .i64 0) := hr1.cell 0
      have r1 : w1.cell? ⟨w.heap.size, 1, none⟩ = some (.int .i64 0) := hr1.cell 1
      have r2 : w1.cell? ⟨w.heap.size, 2, none⟩ = some (.string (str [])) := hr1.cell 2
      have f0 := hr1.frozen 0
      have f1 := hr1.frozen 1
      have f2 := hr1.frozen 2
      have z1 := hr1.lt
      have Hr1 := Lib.hid hr1
      have HS1 := Lib.hid hS1
      clear hr1 hS1
      go_wp2
      refine bodyPost_ret (refboth_results (Hr1.out.set3 (truthV _)) rfl) rfl ⟨by rw [HV.out, if_pos (.inr (of_decide_eq_true HB1.out))]; rfl, ?_⟩
      exact (hS0.out.trans HS1.out).set3 (fun h => by omega) _ _ _
  · go_enter Try.func40, Try.ntmps40
    go_wp2_with (go_at_call 39; refine stopAt ?_)
    unfold Hid
    refine (gt _ _).mono ?_
    rintro e' w1 ⟨rfl, hS1⟩
    have hr1 := hr0.out.keep hS1 trivial
    have r0 : w1.cell? ⟨w.heap.size, 0, none⟩ = some (.int .i64 0) := hr1.cell 0
    have r1 : w1.cell? ⟨w.heap.size, 1, none⟩ = some (.int .i64 0) := hr1.cell 1
    have r2 : w1.cell? ⟨w.heap.size, 2, none⟩ = some (.string (str [])) := hr1.cell 2
    have f0 := hr1.frozen 0
    have f1 := hr1.frozen 1
    have f2 := hr1.frozen 2
    have z1 := hr1.lt
    have Hr1 := Lib.hid hr1
    have HS1 := Lib.hid hS1
    clear hr1 hS1
    go_wp2
    refine bodyPost_ret (refboth_results (Hr1.out.set3 (truthV _)) rfl) rfl ⟨by rw [HV.out, if_pos (.inl (of_decide_eq_true HA1.out))]; rfl, ?_⟩
    exact (hS0.out.trans HS1.out).set3 (fun h => by omega) _ _ _
theorem numF_fit {n : Int} (h : -9223372036854775808 ≤ n ∧ n ≤ 9223372036854775807) : numF (fitF n) = (⟨2, n, []⟩, 0) := by rw [fit_if, if_pos h]; simp [numF]
theorem numF_bad {n : Int} (h : ¬ (-9223372036854775808 ≤ n ∧ n ≤ 9223372036854775807)) : numF (fitF n) = (.zero, 5) := by rw [fit_if, if_neg h]; simp [numF]
set_option maxHeartbeats 2000000 in
theorem refnumber_neg (A : Option Addr) (cp : Nat) (a : Val) (S : Nat → Prop) (w : World) (hv : VaR w S (.slice A 1 cp) [a]) (hc : 1 ≤ cp) (hm : cp ≤ maxLen) (ha : i64B a.n = true) :
    Calls Try.prog 43 #[.string (str [78, 69, 71]), .slice A 1 cp] w (ValEP (numF (fitF (-a.n))) w) := by
  unfold maxLen at hm
  obtain ⟨ad, rfl, -, d0, d1, d2⟩ := VaR.one hv
  have hab := World.block_lt_of_cell? w _ d0
  simp only [i64B, Bool.and_eq_true, decide_eq_true_eq] at ha
  obtain ⟨h1, h2⟩ := ha
  have Hg := Lib.hid (@numF_fit (-a.n))
  have Hb := Lib.hid (@numF_bad (-a.n))
  obtain ⟨R, hR⟩ : ∃ R, numF (fitF (-a.n)) = R := ⟨_, rfl⟩
  rw [hR] at Hg Hb ⊢
  clear hv hR
  by_cases hl : a.n = -9223372036854775808
  · have E := Hb.out (by omega)
    have HE := Lib.hid E
    have b1 : (a.n == -9223372036854775808) = true := by simpa using hl
    clear E Hg Hb hl
    go_enter Try.func43, Try.ntmps43
    go_wp2
    refine bodyPost_ret (v := .tuple #[valV .zero, .int .i64 5]) ?_ rfl (ValEP.mk' (HE.out) ?_)
    · simp [results, Try.results43, go_sem, Val.zero, str]
    · exact (Same.refl _ _).alloc _
  · have E := Hg.out (by omega)
    have HE := Lib.hid E
    have b1 : (a.n == -9223372036854775808) = false := by simpa using hl
    have b2 : -9223372036854775807 ≤ a.n := by omega
    have b3 : -a.n ≤ 9223372036854775807 := by omega
    have b4 : -9223372036854775808 ≤ -a.n := by omega
    clear E Hg Hb hl
    go_enter Try.func43, Try.ntmps43
    go_wp2
    refine bodyPost_ret (v := .tuple #[valV ⟨2, -a.n, []⟩, .int .i64 0]) ?_ rfl (ValEP.mk' (HE.out) ?_)
    · simp [results, Try.results43, go_sem, Val.zero, str]
    · exact (Same.refl _ _).alloc _
set_option maxHeartbeats 4000000 in
theorem refnumber_add (A : Option Addr) (cp : Nat) (a b : Val) (S : Nat → Prop) (w : World) (hv : VaR w S (.slice A 2 cp) [a, b]) (hc : 2 ≤ cp) (hm : cp ≤ maxLen) (ha : i64B a.n = true) (hb : i64B b.n = true) :
    Calls Try.prog 43 #[.string (str [43]), .slice A 2 cp] w (ValEP (numF (fitF (a.n + b.n))) w) := by
  unfold maxLen at hm
  obtain ⟨ad, rfl, -, d0, d1, d2, j0, j1, j2⟩ := VaR.two hv
  have hab := World.block_lt_of_cell? w _ d0
  have HA := ha
  have HB := hb
  simp only [i64B, Bool.and_eq_true, decide_eq_true_eq] at ha hb
  obtain ⟨ha1, ha2⟩ := ha
  obtain ⟨hb1, hb2⟩ := hb
  clear hv
  generalize a.n = x at *
  generalize b.n = y at *
  have g := fun W => refadd_any x y HA HB W
  obtain ⟨R, hR⟩ : ∃ R, fitF (x + y) = R := ⟨_, rfl⟩
  rw [hR] at g ⊢
  clear hR
  obtain ⟨rn, re⟩ := R
  by_cases h0 : re = 0
  · subst h0
    have K : numF (rn, (0 : Int)) = (⟨2, rn, []⟩, 0) := by simp [numF]
    have HK := Lib.hid K
    clear K
    go_enter Try.func43, Try.ntmps43
    go_wp2_with (go_at_call 58; refine (g _).mono ?_; rintro e w' ⟨rfl, rfl⟩)
    refine bodyPost_ret (v := .tuple #[valV ⟨2, rn, []⟩, .int .i64 0]) ?_ rfl (ValEP.mk' (HK.out) ?_)
    · simp [results, Try.results43, go_sem, Val.zero, str]
    · exact (Same.refl _ _).alloc _
  · have b0 : (re != 0) = true := by simpa using h0
    have K : numF (rn, re) = (.zero, re) := by simp [numF, h0]
    have HK := Lib.hid K
    clear K h0
    go_enter Try.func43, Try.ntmps43
    go_wp2_with (go_at_call 58; refine (g _).mono ?_; rintro e w' ⟨rfl, rfl⟩)
    refine bodyPost_ret (v := .tuple #[valV .zero, .int .i64 re]) ?_ rfl (ValEP.mk' (HK.out) ?_)
    · simp [results, Try.results43, go_sem, Val.zero, str]
    · exact (Same.refl _ _).alloc _
set_option maxHeartbeats 4000000 in
theorem refnumber_mul (A : Option Addr) (cp : Nat) (a b : Val) (S : Nat → Prop) (w : World) (hv : VaR w S (.slice A 2 cp) [a, b]) (hc : 2 ≤ cp) (hm : cp ≤ maxLen) (ha : i64B a.n = true) (hb : i64B b.n = true) :
    Calls Try.prog 43 #[.string (str [42]), .slice A 2 cp] w (ValEP (numF (fitF (a.n * b.n))) w) := by
  unfold maxLen at hm
  obtain ⟨ad, rfl, -, d0, d1, d2, j0, j1, j2⟩ := VaR.two hv
  have hab := World.block_lt_of_cell? w _ d0
  have HA := ha
  have HB := hb
  simp only [i64B, Bool.and_eq_true, decide_eq_true_eq] at ha hb
  obtain ⟨ha1, ha2⟩ := ha
  obtain ⟨hb1, hb2⟩ := hb
  clear hv
  generalize a.n = x at *
  generalize b.n = y at *
  have g := fun W => refmul_any x y HA HB W
  obtain ⟨R, hR⟩ : ∃ R, fitF (x * y) = R := ⟨_, rfl⟩
  rw [hR] at g ⊢
  clear hR
  obtain ⟨rn, re⟩ := R
  by_cases h0 : re = 0
  · subst h0
    have K : numF (rn, (0 : Int)) = (⟨2, rn, []⟩, 0) := by simp [numF]
    have HK := Lib.hid K
    clear K
    go_enter Try.func43, Try.ntmps43
    go_wp2_with (go_at_call 59; refine (g _).mono ?_; rintro e w' ⟨rfl, rfl⟩)
    refine bodyPost_ret (v := .tuple #[valV ⟨2, rn, []⟩, .int .i64 0]) ?_ rfl (ValEP.mk' (HK.out) ?_)
    · simp [results, Try.results43, go_sem, Val.zero, str]
    · exact (Same.refl _ _).alloc _
  · have b0 : (re != 0) = true := by simpa using h0
    have K : numF (rn, re) = (.zero, re) := by simp [numF, h0]
    have HK := Lib.hid K
    clear K h0
    go_enter Try.func43, Try.ntmps43
    go_wp2_with (go_at_call 59; refine (g _).mono ?_; rintro e w' ⟨rfl, rfl⟩)
    refine bodyPost_ret (v := .tuple #[valV .zero, .int .i64 re]) ?_ rfl (ValEP.mk' (HK.out) ?_)
    · simp [results, Try.results43, go_sem, Val.zero, str]
    · exact (Same.refl _ _).alloc _
set_option maxHeartbeats 4000000 in
theorem refnumber_sub (A : Option Addr) (cp : Nat) (a b : Val) (S : Nat → Prop) (w : World) (hv : VaR w S (.slice A 2 cp) [a, b]) (hc : 2 ≤ cp) (hm : cp ≤ maxLen) (ha : i64B a.n = true) (hb : i64B b.n = true) :
    Calls Try.prog 43 #[.string (str [45]), .slice A 2 cp] w (ValEP (numF (fitF (a.n - b.n))) w) := by
  unfold maxLen at hm
  obtain ⟨ad, rfl, -, d0, d1, d2, j0, j1, j2⟩ := VaR.two hv
  have hab := World.block_lt_of_cell? w _ d0
  have HA := ha
  have HB := hb
  simp only [i64B, Bool.and_eq_true, decide_eq_true_eq] at ha hb
  obtain ⟨ha1, ha2⟩ := ha
  obtain ⟨hb1, hb2⟩ := hb
  clear hv
  generalize a.n = x at *
  generalize b.n = y at *
  by_cases hy : y = -9223372036854775808
  · have bb : (y == -9223372036854775808) = true := by simpa using hy
    have Hg := Lib.hid (@numF_fit (x - y))
    have Hb := Lib.hid (@numF_bad (x - y))
    obtain ⟨R, hR⟩ : ∃ R, numF (fitF (x - y)) = R := ⟨_, rfl⟩
    rw [hR] at Hg Hb ⊢
    clear hR
    by_cases hx : 0 ≤ x
    · have HE := Lib.hid (Hb.out (by omega))
      clear Hg Hb HA HB
      subst hy
      go_enter Try.func43, Try.ntmps43
      go_wp2
      refine bodyPost_ret (v := .tuple #[valV .zero, .int .i64 5]) ?_ rfl (ValEP.mk' (HE.out) ?_)
      · simp [results, Try.results43, go_sem, Val.zero, str]
      · exact (Same.refl _ _).alloc _
    · have HE := Lib.hid (Hg.out (by omega))
      have q1 : -9223372036854775808 ≤ x - y := by omega
      have q2 : x - y ≤ 9223372036854775807 := by omega
      have hx2 : x < 0 := by omega
      clear Hg Hb HA HB hy hx
      go_enter Try.func43, Try.ntmps43
      go_wp2
      refine bodyPost_ret (v := .tuple #[valV ⟨2, x - y, []⟩, .int .i64 0]) ?_ rfl (ValEP.mk' (HE.out) ?_)
      · simp [results, Try.results43, go_sem, Val.zero, str]
      · exact (Same.refl _ _).alloc _
  · have bb : (y == -9223372036854775808) = false := by simpa using hy
    have g := fun W => refadd_any x (-y) HA (by simp [i64B]; omega) W
    rw [show x + -y = x - y from by omega] at g
    have q1 : -9223372036854775807 ≤ y := by omega
    have q2 : -y ≤ 9223372036854775807 := by omega
    have q3 : -9223372036854775808 ≤ -y := by omega
    obtain ⟨R, hR⟩ : ∃ R, fitF (x - y) = R := ⟨_, rfl⟩
    rw [hR] at g ⊢
    clear hR hy
    obtain ⟨rn, re⟩ := R
    by_cases h0 : re = 0
    · subst h0
      have K : numF (rn, (0 : Int)) = (⟨2, rn, []⟩, 0) := by simp [numF]
      have HK := Lib.hid K
      clear K
      go_enter Try.func43, Try.ntmps43
      go_wp2_with (go_at_call 58; refine (g _).mono ?_; rintro e w' ⟨rfl, rfl⟩)
      refine bodyPost_ret (v := .tuple #[valV ⟨2, rn, []⟩, .int .i64 0]) ?_ rfl (ValEP.mk' (HK.out) ?_)
      · simp [results, Try.results43, go_sem, Val.zero, str]
      · exact (Same.refl _ _).alloc _
    · have b0 : (re != 0) = true := by simpa using h0
      have K : numF (rn, re) = (.zero, re) := by simp [numF, h0]
      have HK := Lib.hid K
      clear K h0
      go_enter Try.func43, Try.ntmps43
      go_wp2_with (go_at_call 58; refine (g _).mono ?_; rintro e w' ⟨rfl, rfl⟩)
      refine bodyPost_ret (v := .tuple #[valV .zero, .int .i64 re]) ?_ rfl (ValEP.mk' (HK.out) ?_)
      · simp [results, Try.results43, go_sem, Val.zero, str]
      · exact (Same.refl _ _).alloc _
set_option maxHeartbeats 4000000 in
theorem refnumber_div (A : Option Addr) (cp : Nat) (a b : Val) (S : Nat → Prop) (w : World) (hv : VaR w S (.slice A 2 cp) [a, b]) (hc : 2 ≤ cp) (hm : cp ≤ maxLen) (ha : i64B a.n = true) (hb : i64B b.n = true) :
    Calls Try.prog 43 #[.string (str [47]), .slice A 2 cp] w (ValEP (numF (if b.n = 0 then (0, 17) else fitF (a.n.tdiv b.n))) w) := by
  unfold maxLen at hm
  obtain ⟨ad, rfl, -, d0, d1, d2, j0, j1, j2⟩ := VaR.two hv
  have hab := World.block_lt_of_cell? w _ d0
  have HA := ha
  have HB := hb
  simp only [i64B, Bool.and_eq_true, decide_eq_true_eq] at ha hb
  obtain ⟨ha1, ha2⟩ := ha
  obtain ⟨hb1, hb2⟩ := hb
  clear hv
  generalize a.n = x at *
  generalize b.n = y at *
  by_cases h0 : y = 0
  · subst h0
    rw [if_pos rfl]
    have K : numF ((0 : Int), (17 : Int)) = (.zero, 17) := by simp [numF]
    rw [K]
    clear K
    go_enter Try.func43, Try.ntmps43
    go_wp2
    refine bodyPost_ret (v := .tuple #[valV .zero, .int .i64 17]) ?_ rfl (ValEP.mk' (rfl) ?_)
    · simp [results, Try.results43, go_sem, Val.zero, str]
    · exact (Same.refl _ _).alloc _
  · rw [if_neg h0]
    have b0 : (y == 0) = false := by simpa using h0
    by_cases hm1 : x = -9223372036854775808 ∧ y = -1
    · obtain ⟨rfl, rfl⟩ := hm1
      have K : numF (fitF ((-9223372036854775808 : Int).tdiv (-1))) = (.zero, 5) := by decide
      rw [K]
      clear K
      go_enter Try.func43, Try.ntmps43
      go_wp2
      refine bodyPost_ret (v := .tuple #[valV .zero, .int .i64 5]) ?_ rfl (ValEP.mk' (rfl) ?_)
      · simp [results, Try.results43, go_sem, Val.zero, str]
      · exact (Same.refl _ _).alloc _
    · have hfit : -9223372036854775808 ≤ x.tdiv y ∧ x.tdiv y ≤ 9223372036854775807 := by
        by_cases h1 : y = -1
        · subst h1
          rw [Int.tdiv_neg, Int.tdiv_one]
          have : ¬ x = -9223372036854775808 := fun h => hm1 ⟨h, rfl⟩
          omega
        · exact tdiv_fit HA h0 h1
      rw [numF_fit hfit]
      obtain ⟨q1, q2⟩ := hfit
      obtain ⟨X1, hX1⟩ : ∃ B, decide (x = -9223372036854775808) = B := ⟨_, rfl⟩
      obtain ⟨Y1, hY1⟩ : ∃ B, decide (y = -1) = B := ⟨_, rfl⟩
      have bx : (x == -9223372036854775808) = X1 := hX1
      have by_ : (y == -1) = Y1 := hY1
      have hxy : ¬ (X1 = true ∧ Y1 = true) := fun ⟨h1, h2⟩ => hm1 ⟨by rw [h1] at hX1; simpa using hX1, by rw [h2] at hY1; simpa using hY1⟩
      clear hX1 hY1 hm1
      cases X1
      · clear hxy
        go_enter Try.func43, Try.ntmps43
        go_wp2
        refine bodyPost_ret (v := .tuple #[valV ⟨2, x.tdiv y, []⟩, .int .i64 0]) ?_ rfl (ValEP.mk' (rfl) ?_)
        · simp [results, Try.results43, go_sem, Val.zero, str]
        · exact (Same.refl _ _).alloc _
      · cases Y1
        · clear hxy
          go_enter Try.func43, Try.ntmps43
          go_wp2
          refine bodyPost_ret (v := .tuple #[valV ⟨2, x.tdiv y, []⟩, .int .i64 0]) ?_ rfl (ValEP.mk' (rfl) ?_)
          · simp [results, Try.results43, go_sem, Val.zero, str]
          · exact (Same.refl _ _).alloc _
        · exact absurd ⟨rfl, rfl⟩ hxy
set_option maxHeartbeats 4000000 in
theorem refnumber_mod (A : Option Addr) (cp : Nat) (a b : Val) (S : Nat → Prop) (w : World) (hv : VaR w S (.slice A 2 cp) [a, b]) (hc : 2 ≤ cp) (hm : cp ≤ maxLen) (ha : i64B a.n = true) (hb : i64B b.n = true) :
    Calls Try.prog 43 #[.string (str [37]), .slice A 2 cp] w (ValEP (numF (if b.n = 0 then (0, 17) else (a.n.tmod b.n, 0))) w) := by
  unfold maxLen at hm
  obtain ⟨ad, rfl, -, d0, d1, d2, j0, j1, j2⟩ := VaR.two hv
  have hab := World.block_lt_of_cell? w _ d0
  have HA := ha
  have HB := hb
  simp only [i64B, Bool.and_eq_true, decide_eq_true_eq] at ha hb
  obtain ⟨ha1, ha2⟩ := ha
  obtain ⟨hb1, hb2⟩ := hb
  clear hv
  generalize a.n = x at *
  generalize b.n = y at *
  by_cases h0 : y = 0
  · subst h0
    rw [if_pos rfl]
    have K : numF ((0 : Int), (17 : Int)) = (.zero, 17) := by simp [numF]
    rw [K]
    clear K
    go_enter Try.func43, Try.ntmps43
    go_wp2
    refine bodyPost_ret (v := .tuple #[valV .zero, .int .i64 17]) ?_ rfl (ValEP.mk' (rfl) ?_)
    · simp [results, Try.results43, go_sem, Val.zero, str]
    · exact (Same.refl _ _).alloc _
  · rw [if_neg h0]
    have b0 : (y == 0) = false := by simpa using h0
    have K : numF (x.tmod y, (0 : Int)) = (⟨2, x.tmod y, []⟩, 0) := by simp [numF]
    rw [K]
    clear K
    by_cases h1 : y = -1
    · subst h1
      have e : x.tmod (-1) = 0 := by rw [Int.tmod_neg, Int.tmod_one]
      rw [e]
      clear e
      go_enter Try.func43, Try.ntmps43
      go_wp2
      refine bodyPost_ret (v := .tuple #[valV ⟨2, 0, []⟩, .int .i64 0]) ?_ rfl (ValEP.mk' (rfl) ?_)
      · simp [results, Try.results43, go_sem, Val.zero, str]
      · exact (Same.refl _ _).alloc _
    · obtain ⟨q1, q2⟩ := tmod_fit HA HB h0
      have b1 : (y != -1) = true := by simpa using h1
      clear h1
      go_enter Try.func43, Try.ntmps43
      go_wp2
      refine bodyPost_ret (v := .tuple #[valV ⟨2, x.tmod y, []⟩, .int .i64 0]) ?_ rfl (ValEP.mk' (rfl) ?_)
      · simp [results, Try.results43, go_sem, Val.zero, str]
      · exact (Same.refl _ _).alloc _
end Go.Proofs.Ytakbikibahhepaa
