/-
  The walks of expr's small functions: told, all, null, truth, True, sums and differences.
-/
import Derived.Test.YtakbikibahhepaaExP
import Derived.Test.YtakbikibahhepaaRow
import Derived.Test.YtakbikibahhepaaReg2
import Derived.Test.YtakbikibahhepaaRows
import Derived.Outline
import Derived.Deep.QuietTactic
import Derived.BigQuiet
set_option linter.unusedSimpArgs false
set_option linter.unusedVariables false
namespace Go.Proofs.Ytakbikibahhepaa
open Go.RowKit

/-- Two results: a number and an error. -/
def NumP (r : Int × Int) (w : World) (e : Ending) (w' : World) : Prop := e = .returned (.tuple #[.int .i64 r.1, .int .i64 r.2]) ∧ w = w'
theorem NumP.mk' {R : Int × Int} {w : World} {a b : Int} (h : R = (a, b)) : NumP R w (.returned (.tuple #[.int .i64 a, .int .i64 b])) w := by subst h; exact ⟨rfl, rfl⟩
def ValP (v : Val) (w : World) (e : Ending) (w' : World) : Prop := e = .returned (valV v) ∧ Same (fun _ => True) w w'
def ValEP (r : Val × Int) (w : World) (e : Ending) (w' : World) : Prop := e = .returned (.tuple #[valV r.1, .int .i64 r.2]) ∧ Same (fun _ => True) w w'
def BoolP (b : Bool) (w : World) (e : Ending) (w' : World) : Prop := e = .returned (.bool b) ∧ Same (fun _ => True) w w'
set_option maxHeartbeats 400000 in
theorem told_any (m s : Bool) (k : Int) (w : World) : Calls Try.prog 47 #[.bool m, .bool s, .int .i64 k] w (NumP (toldF m s k) w) := by
  cases m <;> cases s
  all_goals
    go_enter Try.func47, Try.ntmps47
    go_wp2
    go_ret2
    exact ⟨rfl, rfl⟩
/-- A slice of ints that reads. -/
def InR (w : World) (S : Nat → Prop) (v : Value) (l : List Int) : Prop := RowR (fun k => [.int .i64 k]) 1 w S v l
theorem InR.at_ {w : World} {S : Nat → Prop} {A : Option Addr} {n c : Nat} {l : List Int} (h : InR w S (.slice A n c) l) {i : Nat} (hi : i < l.length) : ∃ ad, A = some ad ∧ S ad.block ∧ w.cell? (ad.add i) = some (.int .i64 l[i]) := by
  obtain ⟨ad, c, h1, _, _, h4, h5⟩ := RowR.at_ h (fun _ => rfl) hi
  injection h1 with h1 _ _
  refine ⟨ad, h1, h4, ?_⟩
  have := h5 0 (by omega)
  rw [add_zero, Nat.mul_one] at this
  exact this
theorem drop_cons {α : Type} {l : List α} {i : Nat} (h : i < l.length) : l.drop i = l[i] :: l.drop (i + 1) := List.drop_eq_getElem_cons h
theorem kAll_drop {l : List Int} {i : Nat} {k : Int} (h : i < l.length) : kAll (l.drop i) k = ((decide (l[i] = k) || decide (l[i] = 0)) && kAll (l.drop (i + 1)) k) := by
  rw [drop_cons h]; rfl
set_option maxHeartbeats 1000000 in
theorem exall_any (v : Value) (l : List Int) (k : Int) (S : Nat → Prop) (w : World) (hv : InR w S v l) : Calls Try.prog 48 #[v, .int .i64 k] w (fun e w' => e = .returned (.bool (kAll l k)) ∧ w = w') := by
  obtain ⟨A, cp, rfl, hc, hm, _⟩ := id hv
  have Hv := Lib.hid hv
  unfold maxLen at hm
  clear hv
  go_enter Try.func48, Try.ntmps48
  go_wp2
  go_loop [6, 9] (fun _ i => ∃ j : Nat, j ≤ l.length ∧ i = .int .i64 j ∧ kAll l k = kAll (l.drop j) k) (fun _ i => l.length - (intOf i).toNat)
  case atStart => exact ⟨0, Nat.zero_le _, rfl, rfl⟩
  case round =>
    obtain ⟨j, hj, rfl, hrel⟩ := hrel
    have Hrel := Lib.hid hrel
    clear hrel
    by_cases hlt : j < l.length
    · obtain ⟨ad, rfl, -, hcell⟩ := Hv.out.at_ hlt
      have hd := kAll_drop (k := k) hlt
      have x1 : (0 : Int) ≤ (j : Int) := by omega
      have x2 : (j : Int) < (l.length : Int) := by omega
      generalize l[j] = x at *
      by_cases h1 : x = k
      · have Hd := Lib.hid hd
        clear hd
        subst h1
        go_wp2
        go_round
        case rel => exact ⟨j + 1, by omega, by go_num, by rw [Hrel.out, Hd.out]; simp⟩
        case measure => simp [intOf]; omega
      · by_cases h2 : x = 0
        · have Hd := Lib.hid hd
          have H1 := Lib.hid h1
          have b1 : (x != k) = true := by simpa using h1
          have b2 : ((0 : Int) != k) = true := by rw [← h2]; exact b1
          clear hd h1 b1
          subst h2
          go_wp2
          go_round
          case rel => exact ⟨j + 1, by omega, by go_num, by rw [Hrel.out, Hd.out]; simp⟩
          case measure => simp [intOf]; omega
        · have e : kAll l k = false := by rw [Hrel.out, hd]; simp [h1, h2]
          have b1 : (x != k) = true := by simpa using h1
          have b2 : (x != 0) = true := by simpa using h2
          have E := Lib.hid e
          clear hd e h1 h2
          go_wp2
          go_ret
          rw [E.out]
          exact ⟨rfl, rfl⟩
    · have e : kAll l k = true := by rw [Hrel.out, List.drop_of_length_le (by omega)]; rfl
      have E := Lib.hid e
      clear e
      go_wp2
      go_ret
      rw [E.out]
      exact ⟨rfl, rfl⟩
set_option maxHeartbeats 400000 in
theorem exnull_any (v : Val) (w : World) : Calls Try.prog 51 #[valV v] w (BoolP (decide (v.kind = 0)) w) := by
  by_cases h : v.kind = 0
  all_goals
    have b : (v.kind == 0) = decide (v.kind = 0) := rfl
    go_enter Try.func51, Try.ntmps51
    go_wp2
    go_ret
    exact ⟨by simp [h], (Same.refl _ _).alloc _⟩
set_option maxHeartbeats 400000 in
theorem extruth_any (b : Bool) (w : World) : Calls Try.prog 32 #[.bool b] w (ValP (truthV b) w) := by
  cases b
  all_goals
    go_enter Try.func32, Try.ntmps32
    go_wp2
    refine bodyPost_ret (v := valV (truthV _)) (by simp [results, Try.results32, go_sem, truthV, str]) rfl ⟨rfl, ?_⟩
    exact (Same.refl _ _).alloc _
theorem val_runeq (a b : Val) (w : World) : (binOp .eql 23 (valV a) (valV b)).run Try.prog w = .ok (.bool (decide (a = b))) w := by
  have e : decide (a = b) = (a.kind == b.kind && (a.n == b.n && a.s == b.s)) := by
    rw [Bool.eq_iff_iff]; cases a; cases b; simp
  rw [e]
  go_simp
  cases h1 : a.kind == b.kind <;> cases h2 : a.n == b.n <;> cases h3 : a.s == b.s <;> simp_all
set_option maxHeartbeats 400000 in
theorem exTrue_any (v : Val) (w : World) : Calls Try.prog 17 #[valV v] w (BoolP (isTrue v) w) := by
  go_enter Try.func17, Try.ntmps17
  go_wp2
  obtain ⟨W, hW⟩ : ∃ W, W = w.alloc (.cells #[.int .i64 v.kind, .int .i64 v.n, .string (str v.s)] 23) := ⟨_, rfl⟩
  have hr1 : Row W w.heap.size 23 (valCs v) := by rw [hW]; exact Row.new w _ (valCs v)
  have hS : Same (fun _ => True) w W := by rw [hW]; exact (Same.refl _ _).alloc _
  have c0 : W.cell? ⟨w.heap.size, 0, none⟩ = some (.int .i64 v.kind) := hr1.cell 0
  have c1 : W.cell? ⟨w.heap.size, 1, none⟩ = some (.int .i64 v.n) := hr1.cell 1
  have c2 : W.cell? ⟨w.heap.size, 2, none⟩ = some (.string (str v.s)) := hr1.cell 2
  rw [← hW]
  have q := val_runeq v (truthV true)
  have HS := Lib.hid hS
  clear hr1 hW hS
  refine wp_region_eq_lit (vs := [(valV v), (valV (truthV true)), (.bool (decide (v = truthV true))), (.bool (decide (v = truthV true)))]) (by kernel_rfl) (by kernel_rfl) rfl rfl ?_ ?_
  · refine ⟨?_, ?_, ?_, ?_, trivial⟩
    · intro ac wc hs hd hz hf hw K hK
      have e0 : ac.eval (.tmp 1) = (.pointer (some ⟨w.heap.size, 0, none⟩)) := hf 1 rfl
      have m0 : wc.cell? ⟨w.heap.size, 0, none⟩ = some (.int .i64 v.kind) := hs.cell (p := ⟨w.heap.size, 0, none⟩) trivial c0
      have m1 : wc.cell? ⟨w.heap.size, 1, none⟩ = some (.int .i64 v.n) := hs.cell (p := ⟨w.heap.size, 1, none⟩) trivial c1
      have m2 : wc.cell? ⟨w.heap.size, 2, none⟩ = some (.string (str v.s)) := hs.cell (p := ⟨w.heap.size, 2, none⟩) trivial c2
      clear hd hz hf hw
      simp only [Region.wanted, if_true, Oper.wp, execOp, resolve, List.map_toArray, List.map_cons, List.map_nil, Option.map_some, Option.map_none, e0]
      go_simp
      exact hK _ _ rfl (Same.refl _ _)
    · intro ac wc hs hd hz hf hw K hK
      clear hd hz hf hw
      simp only [Region.wanted, if_true, Oper.wp, execOp, resolve, List.map_toArray, List.map_cons, List.map_nil, Option.map_some, Option.map_none]
      go_simp
      refine (extruth_any _ _).mono ?_
      rintro e wd ⟨rfl, hs2⟩
      exact hK _ _ rfl hs2
    · intro ac wc hs hd hz hf hw K hK
      have e0 : ac.eval (.tmp 3) = (valV v) := hw 0 rfl
      have e1 : ac.eval (.tmp 4) = (valV (truthV true)) := hw 1 rfl
      clear hd hz hf hw
      simp only [Region.wanted, if_true, Oper.wp, execOp, resolve, List.map_toArray, List.map_cons, List.map_nil, Option.map_some, Option.map_none, e0, e1]
      go_simp
      exact hK _ _ rfl (Same.refl _ _)
    · intro ac wc hs hd hz hf hw K hK
      have e0 : ac.eval (.tmp 5) = (.bool (decide (v = truthV true))) := hw 2 rfl
      clear hd hz hf hw
      simp only [Region.wanted, if_true, Oper.wp, execOp, resolve, List.map_toArray, List.map_cons, List.map_nil, Option.map_some, Option.map_none, e0]
      go_simp
      exact hK _ _ rfl (Same.refl _ _)
  · intro wR hsR
    simp only [putAll, Act.put, List.setIfInBounds_toArray, List.set_cons_succ, List.set_cons_zero]
    go_wp2
    go_ret
    exact ⟨rfl, HS.out.trans hsR⟩
set_option maxHeartbeats 1000000 in
theorem exadd_any (a b : Int) (ha : i64B a = true) (hb : i64B b = true) (w : World) : Calls Try.prog 61 #[.int .i64 a, .int .i64 b] w (NumP (fitF (a + b)) w) := by
  simp only [i64B, Bool.and_eq_true, decide_eq_true_eq] at ha hb
  obtain ⟨ha1, ha2⟩ := ha
  obtain ⟨hb1, hb2⟩ := hb
  have key : fitF (a + b) = if -9223372036854775808 ≤ a + b ∧ a + b ≤ 9223372036854775807 then (a + b, 0) else (0, 5) := by unfold fitF i64B; simp
  generalize fitF (a + b) = R at *
  have Key := Lib.hid key
  clear key
  by_cases h1 : 0 < b
  · by_cases h2 : 9223372036854775807 - b < a
    · go_enter Try.func61, Try.ntmps61
      go_wp2
      go_ret2
      exact NumP.mk' (Key.out.trans (if_neg (by omega)))
    · go_enter Try.func61, Try.ntmps61
      go_wp2
      go_ret2
      exact NumP.mk' (Key.out.trans (if_pos (by omega)))
  · by_cases h0 : b < 0
    · by_cases h2 : a < -9223372036854775808 - b
      · go_enter Try.func61, Try.ntmps61
        go_wp2
        go_ret2
        exact NumP.mk' (Key.out.trans (if_neg (by omega)))
      · go_enter Try.func61, Try.ntmps61
        go_wp2
        go_ret2
        exact NumP.mk' (Key.out.trans (if_pos (by omega)))
    · obtain rfl : b = 0 := by omega
      go_enter Try.func61, Try.ntmps61
      go_wp2
      go_ret2
      exact NumP.mk' (by rw [Key.out, if_pos (by omega)]; simp)
set_option maxHeartbeats 1000000 in
theorem exminus_any (a b : Int) (ha : i64B a = true) (hb : i64B b = true) (w : World) : Calls Try.prog 54 #[.int .i64 a, .int .i64 b] w (NumP (fitF (a - b)) w) := by
  have key : fitF (a - b) = if -9223372036854775808 ≤ a - b ∧ a - b ≤ 9223372036854775807 then (a - b, 0) else (0, 5) := by unfold fitF i64B; simp
  have hA := ha
  simp only [i64B, Bool.and_eq_true, decide_eq_true_eq] at ha hb
  obtain ⟨ha1, ha2⟩ := ha
  obtain ⟨hb1, hb2⟩ := hb
  have g := fun hB W => exadd_any a (-b) hA hB W
  rw [show a + -b = a - b from by omega] at g
  generalize fitF (a - b) = R at *
  have Key := Lib.hid key
  clear key
  by_cases h : b = -9223372036854775808
  · subst h
    clear hA g
    by_cases h0 : 0 ≤ a
    · go_enter Try.func54, Try.ntmps54
      go_wp2
      go_ret2
      exact NumP.mk' (Key.out.trans (if_neg (by omega)))
    · go_enter Try.func54, Try.ntmps54
      go_wp2
      go_ret2
      exact NumP.mk' (Key.out.trans (if_pos (by omega)))
  · have g := fun W => g (by simp [i64B]; omega) W
    have b1 : (b != -9223372036854775808) = true := by simpa using h
    have b2 : -9223372036854775807 ≤ b := by omega
    have b3 : -b ≤ 9223372036854775807 := by omega
    have b4 : -9223372036854775808 ≤ -b := by omega
    clear hA h
    go_enter Try.func54, Try.ntmps54
    go_wp2_with (go_at_call 61; refine stopAt ?_)
    unfold Hid
    refine (g _).mono ?_
    rintro e w' ⟨rfl, rfl⟩
    go_wp2
    go_ret2
    exact ⟨rfl, rfl⟩
end Go.Proofs.Ytakbikibahhepaa
