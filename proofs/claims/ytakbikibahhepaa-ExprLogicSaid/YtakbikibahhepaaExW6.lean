/-
  The walks of expr.reckon and expr.both; rows of values.
-/
import Derived.Test.YtakbikibahhepaaExW5
import Derived.Test.YtakbikibahhepaaReg6
set_option linter.unusedSimpArgs false
set_option linter.unusedVariables false
namespace Go.Proofs.Ytakbikibahhepaa
open Go.RowKit

theorem tdiv_fit {a b : Int} (ha : i64B a = true) (h0 : b ≠ 0) (h1 : b ≠ -1) : -9223372036854775808 ≤ a.tdiv b ∧ a.tdiv b ≤ 9223372036854775807 := by
  simp only [i64B, Bool.and_eq_true, decide_eq_true_eq] at ha
  obtain ⟨ha1, ha2⟩ := ha
  have e := Int.natAbs_tdiv a b
  by_cases hb : b = 1
  · subst hb; rw [Int.tdiv_one]; exact ⟨ha1, ha2⟩
  · have h2 : 2 ≤ b.natAbs := by omega
    have h3 : a.natAbs / b.natAbs ≤ a.natAbs / 2 := Nat.div_le_div_left h2 (by omega)
    generalize a.tdiv b = q at *
    have e' : q.natAbs = a.natAbs / b.natAbs := e
    omega
theorem tmod_fit {a b : Int} (ha : i64B a = true) (hb : i64B b = true) (h0 : b ≠ 0) : -9223372036854775808 ≤ a.tmod b ∧ a.tmod b ≤ 9223372036854775807 := by
  simp only [i64B, Bool.and_eq_true, decide_eq_true_eq] at ha
  obtain ⟨ha1, ha2⟩ := ha
  simp only [i64B, Bool.and_eq_true, decide_eq_true_eq] at hb
  have e := Int.natAbs_tmod a b
  have h3 : a.natAbs % b.natAbs < b.natAbs := Nat.mod_lt _ (by omega)
  generalize a.tmod b = q at *
  omega
theorem NumP.of {r : Int × Int} {w w' : World} {e : Ending} (h : NumP r w e w') : NumP r w e w' := h
theorem reck_div (o : Opk) (a b : Int) (h : o ≠ .add) (h1 : o ≠ .sub) (h2 : o ≠ .mul) (h3 : o ≠ .mod) : reckF o a b = if b = 0 then (0, 17) else fitF (a.tdiv b) := by
  cases o <;> first | rfl | exact absurd rfl h | exact absurd rfl h1 | exact absurd rfl h2 | exact absurd rfl h3
set_option maxHeartbeats 1000000 in
theorem reckon_add (a b : Int) (HA : i64B a = true) (HB : i64B b = true) (w : World) : Calls Try.prog 57 #[.string (str [43]), .int .i64 a, .int .i64 b] w (NumP (fitF (a + b)) w) := by
  go_enter Try.func57, Try.ntmps57
  go_wp2_with (first | (go_at_call 61; refine (exadd_any _ _ HA HB _).mono ?_; rintro e w' ⟨rfl, rfl⟩) | (go_at_call 66; refine (bmul_any _ _ HA HB _).mono ?_; rintro e w' ⟨rfl, rfl⟩) | (go_at_call 54; refine (exminus_any _ _ HA HB _).mono ?_; rintro e w' ⟨rfl, rfl⟩))
  go_ret2
  exact ⟨rfl, rfl⟩
set_option maxHeartbeats 1000000 in
theorem reckon_sub (a b : Int) (HA : i64B a = true) (HB : i64B b = true) (w : World) : Calls Try.prog 57 #[.string (str [45]), .int .i64 a, .int .i64 b] w (NumP (fitF (a - b)) w) := by
  go_enter Try.func57, Try.ntmps57
  go_wp2_with (first | (go_at_call 61; refine (exadd_any _ _ HA HB _).mono ?_; rintro e w' ⟨rfl, rfl⟩) | (go_at_call 66; refine (bmul_any _ _ HA HB _).mono ?_; rintro e w' ⟨rfl, rfl⟩) | (go_at_call 54; refine (exminus_any _ _ HA HB _).mono ?_; rintro e w' ⟨rfl, rfl⟩))
  go_ret2
  exact ⟨rfl, rfl⟩
set_option maxHeartbeats 1000000 in
theorem reckon_mul (a b : Int) (HA : i64B a = true) (HB : i64B b = true) (w : World) : Calls Try.prog 57 #[.string (str [42]), .int .i64 a, .int .i64 b] w (NumP (fitF (a * b)) w) := by
  go_enter Try.func57, Try.ntmps57
  go_wp2_with (first | (go_at_call 61; refine (exadd_any _ _ HA HB _).mono ?_; rintro e w' ⟨rfl, rfl⟩) | (go_at_call 66; refine (bmul_any _ _ HA HB _).mono ?_; rintro e w' ⟨rfl, rfl⟩) | (go_at_call 54; refine (exminus_any _ _ HA HB _).mono ?_; rintro e w' ⟨rfl, rfl⟩))
  go_ret2
  exact ⟨rfl, rfl⟩
set_option maxHeartbeats 1000000 in
theorem reckon_mod (a b : Int) (ha : i64B a = true) (hb : i64B b = true) (w : World) : Calls Try.prog 57 #[.string (str [37]), .int .i64 a, .int .i64 b] w (NumP (if b = 0 then (0, 17) else (a.tmod b, 0)) w) := by
  by_cases h0 : b = 0
  · subst h0
    rw [if_pos rfl]
    go_enter Try.func57, Try.ntmps57
    go_wp2
    go_ret2
    exact ⟨rfl, rfl⟩
  · rw [if_neg h0]
    obtain ⟨q1, q2⟩ := tmod_fit ha hb h0
    have b1 : (b == 0) = false := by simpa using h0
    clear ha hb
    go_enter Try.func57, Try.ntmps57
    go_wp2
    go_ret2
    exact ⟨rfl, rfl⟩
set_option maxHeartbeats 1000000 in
theorem reckon_div (s : List UInt8) (a b : Int) (p0 : ¬ s = [43]) (p1 : ¬ s = [45]) (p2 : ¬ s = [42]) (p3 : ¬ s = [37]) (ha : i64B a = true) (hb : i64B b = true) (w : World) : Calls Try.prog 57 #[.string (str s), .int .i64 a, .int .i64 b] w (NumP (if b = 0 then (0, 17) else fitF (a.tdiv b)) w) := by
  have s0 : (s == [43]) = false := by simpa using p0
  have s1 : (s == [45]) = false := by simpa using p1
  have s2 : (s == [42]) = false := by simpa using p2
  have s3 : (s == [37]) = false := by simpa using p3
  by_cases h0 : b = 0
  · subst h0
    rw [if_pos rfl]
    go_enter Try.func57, Try.ntmps57
    go_wp2
    go_ret2
    exact ⟨rfl, rfl⟩
  · rw [if_neg h0]
    have b1 : (b == 0) = false := by simpa using h0
    by_cases h1 : b = -1
    · subst h1
      have e : a.tdiv (-1) = 0 - a := by rw [Int.tdiv_neg, Int.tdiv_one]; omega
      rw [e]
      have g := fun W => exminus_any 0 a rfl ha W
      generalize fitF (0 - a) = R at *
      clear ha hb h0
      go_enter Try.func57, Try.ntmps57
      go_wp2_with (go_at_call 54; refine (g _).mono ?_; rintro e w' ⟨rfl, rfl⟩)
      go_ret2
      exact ⟨rfl, rfl⟩
    · obtain ⟨q1, q2⟩ := tdiv_fit ha h0 h1
      have b2 : (b == -1) = false := by simpa using h1
      have K : fitF (a.tdiv b) = (a.tdiv b, 0) := by rw [fit_if, if_pos ⟨q1, q2⟩]
      rw [K]
      clear K ha hb h1
      go_enter Try.func57, Try.ntmps57
      go_wp2
      go_ret2
      exact ⟨rfl, rfl⟩
theorem exreckon_any (s : List UInt8) (a b : Int) (ha : i64B a = true) (hb : i64B b = true) (w : World) : Calls Try.prog 57 #[.string (str s), .int .i64 a, .int .i64 b] w (NumP (reckF (opk s) a b) w) := by
  by_cases p0 : s = [43]
  · subst p0; exact reckon_add a b ha hb w
  by_cases p1 : s = [45]
  · subst p1; exact reckon_sub a b ha hb w
  by_cases p2 : s = [42]
  · subst p2; exact reckon_mul a b ha hb w
  by_cases p3 : s = [37]
  · subst p3; exact reckon_mod a b ha hb w
  have e : reckF (opk s) a b = if b = 0 then (0, 17) else fitF (a.tdiv b) := by
    generalize hX : (if b = 0 then ((0, 17) : Int × Int) else fitF (a.tdiv b)) = X
    unfold opk
    rw [if_neg p0, if_neg p1, if_neg p2, if_neg p3]
    by_cases q0 : s = [73, 83, 78, 85, 76, 76]
    · rw [if_pos q0]; exact hX
    rw [if_neg q0]
    by_cases q1 : s = [78, 79, 84, 78, 85, 76, 76]
    · rw [if_pos q1]; exact hX
    rw [if_neg q1]
    by_cases q2 : s = [78, 79, 84]
    · rw [if_pos q2]; exact hX
    rw [if_neg q2]
    by_cases q3 : s = [78, 69, 71]
    · rw [if_pos q3]; exact hX
    rw [if_neg q3]
    by_cases q4 : s = [79, 82]
    · rw [if_pos q4]; exact hX
    rw [if_neg q4]
    by_cases q5 : s = [65, 78, 68]
    · rw [if_pos q5]; exact hX
    rw [if_neg q5]
    by_cases q9 : s = [47]
    · rw [if_pos q9]; exact hX
    rw [if_neg q9]
    by_cases q11 : s = [61]
    · rw [if_pos q11]; exact hX
    rw [if_neg q11]
    by_cases q12 : s = [60, 62]
    · rw [if_pos q12]; exact hX
    rw [if_neg q12]
    by_cases q13 : s = [60]
    · rw [if_pos q13]; exact hX
    rw [if_neg q13]
    by_cases q14 : s = [60, 61]
    · rw [if_pos q14]; exact hX
    rw [if_neg q14]
    by_cases q15 : s = [62]
    · rw [if_pos q15]; exact hX
    rw [if_neg q15]
    by_cases q16 : s = [62, 61]
    · rw [if_pos q16]; exact hX
    rw [if_neg q16]
    exact hX
  rw [e]
  exact reckon_div s a b p0 p1 p2 p3 ha hb w
/-- A slice of values that reads. -/
abbrev VaR (w : World) (S : Nat → Prop) (v : Value) (l : List Val) : Prop := RowR valCs 3 w S v l
theorem VaR.cells {w : World} {S : Nat → Prop} {A : Option Addr} {n c : Nat} {l : List Val} (h : VaR w S (.slice A n c) l) {i : Nat} (hi : i < l.length) : ∃ ad, A = some ad ∧ S ad.block ∧
    w.cell? (ad.add (i * 3)) = some (.int .i64 l[i].kind) ∧ w.cell? ⟨(ad.add (i * 3)).block, (ad.add (i * 3)).off + 1, none⟩ = some (.int .i64 l[i].n) ∧ w.cell? ⟨(ad.add (i * 3)).block, (ad.add (i * 3)).off + 2, none⟩ = some (.string (str l[i].s)) := by
  obtain ⟨ad, c, h1, h2, h3, h4, h5⟩ := RowR.at_ h valCs_len hi
  injection h1 with h1 _ _
  exact ⟨ad, h1, h4, by have := h5 0 (by omega); rwa [add_zero] at this, h5 1 (by omega), h5 2 (by omega)⟩
theorem VaR.form {w : World} {S : Nat → Prop} {v : Value} {l : List Val} (h : VaR w S v l) : ∃ A c, v = .slice A l.length c ∧ l.length ≤ c ∧ c ≤ maxLen := by
  obtain ⟨A, c, h1, h2, h3, _⟩ := h
  exact ⟨A, c, h1, h2, h3⟩
/-- AND, OR, as a loop goes over them. -/
def bothL (wins : Int) : List Val → Bool → Val
  | [], sm => if sm then .zero else truthV (decide (wins = 0))
  | v :: l, sm => if v.kind = 0 then bothL wins l true else if v.n = wins then v else bothL wins l sm
theorem bothL_two (wins : Int) (a b : Val) : bothL wins [a, b] false = bothF wins a b := by
  unfold bothL bothL bothL bothF
  by_cases h1 : a.kind = 0 <;> by_cases h2 : a.n = wins <;> by_cases h3 : b.kind = 0 <;> by_cases h4 : b.n = wins <;> simp [h1, h2, h3, h4]
theorem both_results {W : World} {k : Nat} {v : Val} (R : Row W k 23 (valCs v)) {tmps : Array Value} (h1 : tmps.getD 4 undef = .pointer (some ⟨k, 0, none⟩)) :
    (results Try.f52 tmps).run Try.prog W = .ok (valV v) W := by
  have d0 : W.cell? ⟨k, 0, none⟩ = some (.int .i64 v.kind) := R.cell 0
  have d1 : W.cell? ⟨k, 1, none⟩ = some (.int .i64 v.n) := R.cell 1
  have d2 : W.cell? ⟨k, 2, none⟩ = some (.string (str v.s)) := R.cell 2
  simp at h1
  simp [results, Try.results52, h1, go_sem, d0, d1, d2]
theorem Row.set3 {w : World} {k : Nat} {e : TypeId} {u : Val} (R : Row w k e (valCs u)) (v : Val) : Row (((w.setCell ⟨k, 0, none⟩ (.int .i64 v.kind)).setCell ⟨k, 1, none⟩ (.int .i64 v.n)).setCell ⟨k, 2, none⟩ (.string (str v.s))) k e (valCs v) :=
  ((R.set_ 0 _).set_ 1 _).set_ 2 _
theorem Same.set3 {w w' : World} {S : Nat → Prop} (h : Same S w w') {k : Nat} (hk : k < w.heap.size → ¬ S k) (a b c : Value) : Same S w (((w'.setCell ⟨k, 0, none⟩ a).setCell ⟨k, 1, none⟩ b).setCell ⟨k, 2, none⟩ c) :=
  ((h.setCell hk a).setCell hk b).setCell hk c
set_option maxHeartbeats 4000000 in
theorem exboth_any (v : Value) (l : List Val) (wins : Int) (S : Nat → Prop) (w : World) (hv : VaR w S v l) : Calls Try.prog 52 #[v, .int .i64 wins] w (ValP (bothL wins l false) w) := by
  obtain ⟨A, cp, rfl, hc, hm⟩ := hv.form
  have Hv := Lib.hid hv
  unfold maxLen at hm
  have hr0 := Row.new w 23 (valCs .zero)
  have hS0 := (Same.refl (fun _ => True) w).alloc (.cells (valCs .zero).toArray 23)
  have Hr0 := Lib.hid hr0
  have HS0 := Lib.hid hS0
  clear hv hr0 hS0
  go_enter Try.func52, Try.ntmps52
  go_wp2
  go_loopw [5, 7, 10] (fun s _ i wr => ∃ (j : Nat) (b : Bool), j ≤ l.length ∧ i = .int .i64 j ∧ s = .bool b ∧ bothL wins l false = bothL wins (l.drop j) b ∧ Row wr w.heap.size 23 (valCs .zero) ∧ Same (fun _ => True) w wr) (fun _ _ i _ => l.length - (intOf i).toNat)
  case atStart => exact ⟨0, false, Nat.zero_le _, rfl, rfl, rfl, Hr0.out, HS0.out⟩
  case round =>
    obtain ⟨j, b, hj, rfl, rfl, hrel, hr, hS⟩ := hrel
    have Hrel := Lib.hid hrel
    have Hr := Lib.hid hr
    have HS := Lib.hid hS
    clear hrel
    by_cases hlt : j < l.length
    · obtain ⟨ad, rfl, -, d0, d1, d2⟩ := VaR.cells (RowR.keepAll Hv.out hS) hlt
      have hd : bothL wins (l.drop j) b = if l[j].kind = 0 then bothL wins (l.drop (j + 1)) true else if l[j].n = wins then l[j] else bothL wins (l.drop (j + 1)) b := by rw [drop_cons hlt, bothL]
      have x1 : (0 : Int) ≤ (j : Int) := by omega
      have x2 : (j : Int) < (l.length : Int) := by omega
      generalize l[j] = x at *
      have Hd := Lib.hid hd
      have hx := Row.new wr 23 (valCs x)
      have hSx := (Same.refl (fun _ => True) wr).alloc (.cells (valCs x).toArray 23)
      have Hx := Lib.hid hx
      have HSx := Lib.hid hSx
      have gn := fun W => exnull_any x W
      have hz := hr.lt
      have Hz := Lib.hid hz
      clear hd hx hSx hr hS hz
      by_cases h1 : x.kind = 0
      · have K := Hd.out.trans (if_pos h1)
        have HK := Lib.hid K
        have q1 : decide (x.kind = 0) = true := by simpa using h1
        rw [q1] at gn
        clear K h1 q1
        go_wp2_with (go_at_call 51; refine stopAt ?_)
        unfold Hid
        refine (gn _).mono ?_
        rintro e w3 ⟨rfl, hS3⟩
        have HS3 := Lib.hid (HSx.out.trans hS3)
        clear hS3
        go_wp2
        go_roundw
        case rel => exact ⟨j + 1, true, by omega, by go_num, rfl, by rw [Hrel.out, HK.out], Hr.out.keep HS3.out trivial, HS.out.trans HS3.out⟩
        case measure => simp [intOf]; omega
      · have K := Hd.out.trans (if_neg h1)
        have q1 : decide (x.kind = 0) = false := by simpa using h1
        rw [q1] at gn
        clear h1 q1
        by_cases h2 : x.n = wins
        · rw [if_pos h2] at K
          have HK := Lib.hid K
          have b2 : (x.n == wins) = true := by simpa using h2
          clear K h2
          go_wp2_with (go_at_call 51; refine stopAt ?_)
          unfold Hid
          refine (gn _).mono ?_
          rintro e w3 ⟨rfl, hS3⟩
          have hx3 := Hx.out.keep hS3 trivial
          have c0 : w3.cell? ⟨wr.heap.size, 0, none⟩ = some (.int .i64 x.kind) := hx3.cell 0
          have c1 : w3.cell? ⟨wr.heap.size, 1, none⟩ = some (.int .i64 x.n) := hx3.cell 1
          have c2 : w3.cell? ⟨wr.heap.size, 2, none⟩ = some (.string (str x.s)) := hx3.cell 2
          have hS4 := HSx.out.trans hS3
          have hr3 := Hr.out.keep hS4 trivial
          have r0 : w3.cell? ⟨w.heap.size, 0, none⟩ = some (.int .i64 0) := hr3.cell 0
          have r1 : w3.cell? ⟨w.heap.size, 1, none⟩ = some (.int .i64 0) := hr3.cell 1
          have r2 : w3.cell? ⟨w.heap.size, 2, none⟩ = some (.string (str [])) := hr3.cell 2
          have f0 : w3.frozen? ⟨w.heap.size, 0, none⟩ = false := hr3.frozen 0
          have f1 : w3.frozen? ⟨w.heap.size, 1, none⟩ = false := hr3.frozen 1
          have f2 : w3.frozen? ⟨w.heap.size, 2, none⟩ = false := hr3.frozen 2
          have y1 := hr3.lt
          have Hr3 := Lib.hid hr3
          have HS4 := Lib.hid hS4
          clear hx3 hS4 hr3 hS3
          go_wp2
          refine bodyPost_ret (both_results (Hr3.out.set3 x) rfl) rfl ⟨?_, ?_⟩
          · rw [Hrel.out, HK.out]
          · exact (HS.out.trans HS4.out).set3 (fun h => by omega) _ _ _
        · rw [if_neg h2] at K
          have HK := Lib.hid K
          have b2 : (x.n == wins) = false := by simpa using h2
          clear K h2
          go_wp2_with (go_at_call 51; refine stopAt ?_)
          unfold Hid
          refine (gn _).mono ?_
          rintro e w3 ⟨rfl, hS3⟩
          have hx3 := Hx.out.keep hS3 trivial
          have c1 : w3.cell? ⟨wr.heap.size, 1, none⟩ = some (.int .i64 x.n) := hx3.cell 1
          have HS3 := Lib.hid (HSx.out.trans hS3)
          clear hS3 hx3
          go_wp2
          go_roundw
          case rel => exact ⟨j + 1, b, by omega, by go_num, rfl, by rw [Hrel.out, HK.out], Hr.out.keep HS3.out trivial, HS.out.trans HS3.out⟩
          case measure => simp [intOf]; omega
    · have e : bothL wins l false = if b then .zero else truthV (decide (wins = 0)) := by rw [Hrel.out, List.drop_of_length_le (by omega)]; rfl
      have r0 : wr.cell? ⟨w.heap.size, 0, none⟩ = some (.int .i64 0) := hr.cell 0
      have r1 : wr.cell? ⟨w.heap.size, 1, none⟩ = some (.int .i64 0) := hr.cell 1
      have r2 : wr.cell? ⟨w.heap.size, 2, none⟩ = some (.string (str [])) := hr.cell 2
      have f0 : wr.frozen? ⟨w.heap.size, 0, none⟩ = false := hr.frozen 0
      have f1 : wr.frozen? ⟨w.heap.size, 1, none⟩ = false := hr.frozen 1
      have f2 : wr.frozen? ⟨w.heap.size, 2, none⟩ = false := hr.frozen 2
      have y1 := hr.lt
      have E := Lib.hid e
      clear e hr hS
      cases b
      · obtain ⟨B, hB⟩ : ∃ B, decide (wins = 0) = B := ⟨_, rfl⟩
        have hB' : (wins == 0) = B := hB
        have HB := Lib.hid hB
        have gt := fun W => extruth_any B W
        clear hB
        go_wp2_with (go_at_call 32; refine stopAt ?_)
        unfold Hid
        refine (gt _).mono ?_
        rintro e w3 ⟨rfl, hS3⟩
        have hr3 := Hr.out.keep hS3 trivial
        have r0 : w3.cell? ⟨w.heap.size, 0, none⟩ = some (.int .i64 0) := hr3.cell 0
        have r1 : w3.cell? ⟨w.heap.size, 1, none⟩ = some (.int .i64 0) := hr3.cell 1
        have r2 : w3.cell? ⟨w.heap.size, 2, none⟩ = some (.string (str [])) := hr3.cell 2
        have f0 : w3.frozen? ⟨w.heap.size, 0, none⟩ = false := hr3.frozen 0
        have f1 : w3.frozen? ⟨w.heap.size, 1, none⟩ = false := hr3.frozen 1
        have f2 : w3.frozen? ⟨w.heap.size, 2, none⟩ = false := hr3.frozen 2
        have y2 := hr3.lt
        have Hr3 := Lib.hid hr3
        have HS3 := Lib.hid hS3
        clear hr3 hS3 gt hB'
        go_wp2
        refine bodyPost_ret (both_results (Hr3.out.set3 (truthV B)) rfl) rfl ⟨?_, ?_⟩
        · rw [E.out, HB.out]; rfl
        · exact (HS.out.trans HS3.out).set3 (fun h => by omega) _ _ _
      · go_wp2
        refine bodyPost_ret (both_results (Hr.out.set3 .zero) rfl) rfl ⟨?_, ?_⟩
        · rw [E.out]; rfl
        · exact HS.out.set3 (fun h => by omega) _ _ _
end Go.Proofs.Ytakbikibahhepaa
