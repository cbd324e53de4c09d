/-
  The walks of the document's digits, and of a text shown.
-/
import Derived.Test.YtcckifllammpbaaLexI
set_option linter.unusedSimpArgs false
set_option linter.unusedVariables false
namespace Go.Proofs.Ytcckifllammpbaa
open Go.RowKit

theorem digL_len : ∀ (k n : Nat), 1 ≤ k → n < 10 ^ k → (digL n).length ≤ k := by
  intro k
  induction k with
  | zero => intro n h; omega
  | succ k ih =>
    intro n _ hn
    unfold digL
    split
    · simp
    · rename_i h
      rw [List.length_append, List.length_cons, List.length_nil]
      have hk : 1 ≤ k := by
        rcases Nat.eq_zero_or_pos k with h0 | h0
        · subst h0; simp at hn; omega
        · exact h0
      have := ih (n / 10) hk (by rw [Nat.pow_succ] at hn; omega)
      omega
theorem dig_ext (d : Nat) (h : d < 10) : (⟨#[48, 49, 50, 51, 52, 53, 54, 55, 56, 57]⟩ : ByteArray).extract d (d + 1) = str [UInt8.ofNat (48 + d)] := by
  match d, h with
  | 0, _ => decide +kernel
  | 1, _ => decide +kernel
  | 2, _ => decide +kernel
  | 3, _ => decide +kernel
  | 4, _ => decide +kernel
  | 5, _ => decide +kernel
  | 6, _ => decide +kernel
  | 7, _ => decide +kernel
  | 8, _ => decide +kernel
  | 9, _ => decide +kernel
theorem digL_lt {n : Nat} (h : n < 10) : digL n = [UInt8.ofNat (48 + n)] := by unfold digL; rw [dif_pos h]
theorem digL_ge {n : Nat} (h : ¬ n < 10) : digL n = digL (n / 10) ++ [UInt8.ofNat (48 + n % 10)] := by
  conv => lhs; unfold digL
  rw [dif_neg h]
/-- A digit's byte. -/
def digB (d : Nat) : UInt8 := UInt8.ofNat (48 + d)
/-- What the loop over a number holds. -/
def DigRel (v u : Nat) (acc : List UInt8) : Prop := (if u = 0 then acc else digL u ++ acc) = digL v
theorem DigRel.next {v u : Nat} {acc : List UInt8} (h : DigRel v u acc) (hu : 0 < u) : DigRel v (u / 10) (digB (u % 10) :: acc) := by
  unfold digB
  unfold DigRel at h ⊢
  rw [if_neg (by omega)] at h
  by_cases h10 : u < 10
  · rw [digL_lt h10] at h
    rw [if_pos (by omega), show u % 10 = u from by omega]
    exact h
  · rw [digL_ge h10] at h
    rw [if_neg (by omega), ← h, List.append_assoc]
    rfl
set_option maxHeartbeats 1000000 in
theorem refdigits_any (v : Nat) (w : World) (hv : (v : Int) ≤ 9223372036854775807) :
    Calls Try.prog 19 #[.int .i64 v] w fun e w' => e = .returned (.string (str (digL v))) ∧ w = w' := by
  have hlen := digL_len 19 v (by omega) (by omega)
  by_cases h0 : v = 0
  · subst h0
    have hd : str (digL 0) = ⟨#[48]⟩ := by rw [digL_lt (by omega)]; rfl
    rw [hd]
    clear hd hlen
    go_enter Try.func19, Try.ntmps19
    go_wp2
    go_ret
    exact ⟨rfl, rfl⟩
  · have e0 : ((v : Int) == 0) = false := by simpa using h0
    have e1 : ¬ (v : Int) < 0 := by omega
    go_enter Try.func19, Try.ntmps19
    go_wp2
    go_loop [3, 4] (fun u t => ∃ (n : Nat) (acc : List UInt8), u = .int .u64 n ∧ t = .string (str acc) ∧ (n : Int) ≤ 9223372036854775807 ∧ DigRel v n acc) (fun u _ => (intOf u).toNat)
    case atStart => exact ⟨v, [], rfl, rfl, hv, by unfold DigRel; rw [if_neg h0, List.append_nil]⟩
    case round =>
      obtain ⟨n, acc, rfl, rfl, hn, hr⟩ := hrel
      by_cases hlt : 0 < n
      · have hrn := hr.next hlt
        have hal : acc.length ≤ 19 := by
          unfold DigRel at hr
          rw [if_neg (by omega)] at hr
          rw [← hr, List.length_append] at hlen
          omega
        have HR := Lib.hid hrn
        have x1 : (0 : Int) < n := by omega
        have y1 : ((n : Int) % 10).toNat = n % 10 := by omega
        have hadd : ∀ w, (Op.stringOp .add ((⟨#[48, 49, 50, 51, 52, 53, 54, 55, 56, 57]⟩ : ByteArray).extract (n % 10) (n % 10 + 1)) (str acc)).run Try.prog w = .ok (.string (str (digB (n % 10) :: acc))) w := fun w => by
          unfold digB
          rw [dig_ext (n % 10) (by omega), show str (UInt8.ofNat (48 + n % 10) :: acc) = str [UInt8.ofNat (48 + n % 10)] ++ str acc from by rw [str_app]; rfl]
          exact run_string_add_sum _ _ _ (by rw [str_size, str_size]; simp; omega)
        clear hr hrn
        go_wp2
        refine ⟨⟨n / 10, _, by simp, rfl, by omega, HR.out⟩, by simp [intOf]; omega⟩
      · obtain rfl : n = 0 := by omega
        unfold DigRel at hr
        rw [if_pos rfl] at hr
        have HR := Lib.hid hr
        clear hr
        go_wp2
        go_ret
        exact ⟨by rw [← HR.out]; rfl, rfl⟩
theorem dbl_snoc (s : ByteArray) (k : Nat) (h : k < s.size) : dbl ((bl s).take (k + 1)) = dbl ((bl s).take k) ++ if s[k] = 39 then [39, 39] else [s[k]] := by
  have hl : k < (bl s).length := by rw [bl_len]; exact h
  rw [List.take_succ_eq_append_getElem hl]
  unfold dbl
  rw [List.flatMap_append]
  have : (bl s)[k] = s[k] := rfl
  rw [this]
  simp
theorem dbl_len (l : List UInt8) : (dbl l).length ≤ 2 * l.length := by
  induction l with
  | nil => simp [dbl]
  | cons c l ih =>
    have : dbl (c :: l) = (if c = 39 then [39, 39] else [c]) ++ dbl l := by simp [dbl]
    rw [this, List.length_append, List.length_cons]
    split <;> simp <;> omega
set_option maxHeartbeats 1000000 in
theorem refmay_text (s : ByteArray) (w : World) (hs : s.size ≤ 64) :
    Calls Try.prog 46 #[.agg #[.int .i64 3, .int .i64 0, .string s]] w fun e w' => e = .returned (.bool true) ∧ Same (fun _ => True) w w' := by
  have d1 : decide ((s.size : Int) ≤ 64) = true := decide_eq_true (by omega)
  go_enter Try.func46, Try.ntmps46
  go_wp2
  go_ret
  exact ⟨rfl, (Same.refl _ _).alloc _⟩
theorem add_strs (a b : List UInt8) (ha : a.length ≤ 1000000) (hb : b.length ≤ 1000000) (w : World) : (Op.stringOp .add (str a) (str b)).run Try.prog w = .ok (.string (str (a ++ b))) w := by
  rw [← str_app]
  exact run_string_add_sum _ _ _ (by rw [str_size, str_size]; omega)
/-- What the loop over a text holds. -/
def ShowRel (s : ByteArray) (w : World) (k : Nat) (wr : World) : Prop :=
  wr.cell? ⟨w.heap.size, 2, none⟩ = some (.string s) ∧ Same (fun _ => True) w wr
set_option maxHeartbeats 1000000 in
theorem refshow_text (s : ByteArray) (w : World) (hs : s.size ≤ 64) :
    Calls Try.prog 20 #[.agg #[.int .i64 3, .int .i64 0, .string s]] w fun e w' => e = .returned (.string (str (39 :: dbl (bl s) ++ [39]))) ∧ Same (fun _ => True) w w' := by
  go_enter Try.func20, Try.ntmps20
  go_wp2_with (go_at_call 46; refine stopAt ?_)
  unfold Hid
  refine (refmay_text s _ hs).mono ?_
  rintro e w1 ⟨rfl, hS⟩
  have hrow := (Row.new w 33 [.int .i64 3, .int .i64 0, .string s]).keep hS trivial
  have c0 := hrow.cell 0
  have c1 := hrow.cell 1
  have c2 := hrow.cell 2
  simp at c0 c1 c2
  have HS := Lib.hid (((Same.refl (fun _ => True) w).alloc _).trans hS)
  clear hS hrow
  go_wp2
  go_loop [3, 4] (fun t i => ∃ k : Nat, k ≤ s.size ∧ i = .int .i64 k ∧ t = .string (str (39 :: dbl ((bl s).take k)))) (fun _ i => s.size - (intOf i).toNat)
  case atStart => exact ⟨0, Nat.zero_le _, rfl, rfl⟩
  case round =>
    obtain ⟨k, hk, rfl, rfl⟩ := hrel
    have hdl := dbl_len ((bl s).take k)
    have hlt' : ((bl s).take k).length ≤ k := List.length_take_le _ _
    by_cases hlt : k < s.size
    · have hsn := dbl_snoc s k hlt
      have x1 : (0 : Int) ≤ k := by omega
      have x2 : (k : Int) < s.size := by omega
      by_cases hq : s[k] = 39
      · obtain ⟨q1, -⟩ := byte_is 39 hq
        simp only [show (((39 : UInt8).toNat : Nat) : Int) = 39 from rfl] at q1
        rw [if_pos hq] at hsn
        have a1 : ∀ w, (Op.stringOp .add (str (39 :: dbl ((bl s).take k))) ⟨#[39]⟩).run Try.prog w = .ok (.string (str (39 :: (dbl ((bl s).take k) ++ [39])))) w := fun w => add_strs (39 :: dbl ((bl s).take k)) [39] (by simp; omega) (by simp) w
        have a2 : ∀ w, (Op.stringOp .add (str (39 :: (dbl ((bl s).take k) ++ [39]))) (s.extract k (k + 1))).run Try.prog w = .ok (.string (str (39 :: dbl ((bl s).take (k + 1))))) w := fun w => by
          rw [ext_one s k hlt, hq, hsn]
          have := add_strs (39 :: (dbl ((bl s).take k) ++ [39])) [39] (by simp; omega) (by simp) w
          rw [this]
          simp
        clear hsn hq
        go_wp2
        exact ⟨⟨k + 1, by omega, by go_num, rfl⟩, by simp [intOf]; omega⟩
      · obtain ⟨q1, -⟩ := byte_no 39 hq
        simp only [show (((39 : UInt8).toNat : Nat) : Int) = 39 from rfl] at q1
        rw [if_neg hq] at hsn
        have a2 : ∀ w, (Op.stringOp .add (str (39 :: dbl ((bl s).take k))) (s.extract k (k + 1))).run Try.prog w = .ok (.string (str (39 :: dbl ((bl s).take (k + 1))))) w := fun w => by
          rw [ext_one s k hlt, hsn]
          exact add_strs (39 :: dbl ((bl s).take k)) [s[k]] (by simp; omega) (by simp) w
        clear hsn hq
        go_wp2
        exact ⟨⟨k + 1, by omega, by go_num, rfl⟩, by simp [intOf]; omega⟩
    · obtain rfl : k = s.size := by omega
      have e1 : (bl s).take s.size = bl s := List.take_of_length_le (by rw [bl_len]; exact Nat.le_refl _)
      rw [e1]
      rw [e1, bl_len] at hdl
      have a1 : ∀ w, (Op.stringOp .add (str (39 :: dbl (bl s))) ⟨#[39]⟩).run Try.prog w = .ok (.string (str (39 :: (dbl (bl s) ++ [39])))) w := fun w => add_strs (39 :: dbl (bl s)) [39] (by simp; omega) (by simp) w
      go_wp2
      go_ret
      exact ⟨rfl, HS.out⟩
end Go.Proofs.Ytcckifllammpbaa
