/-
  A value shown: the plain laws, the document's digits, the document's Show.
-/
import Derived.Test.YtpbekhcogpkbpaaDoorVaK5
import Derived.Test.YtpbekhcogpkbpaaDoorShelf
set_option linter.unusedSimpArgs false
set_option linter.unusedVariables false
namespace Go.Proofs.YtpbekhcogpkbpaaDoor
open Go.RowKit

def digL (n : Nat) : List UInt8 := if h : n < 10 then [UInt8.ofNat (48 + n)] else digL (n / 10) ++ [UInt8.ofNat (48 + n % 10)]
termination_by n
decreasing_by omega
def dbl (s : List UInt8) : List UInt8 := s.flatMap fun c => if c = 39 then [39, 39] else [c]
theorem bl_get (s : ByteArray) (k : Nat) (h : k < s.size) : (bl s).drop k = s[k] :: (bl s).drop (k + 1) := List.drop_eq_getElem_cons (by rw [bl_len]; exact h)
theorem str_app (a b : List UInt8) : str a ++ str b = str (a ++ b) := by
  apply ByteArray.ext
  simp [str]
theorem ext_one (s : ByteArray) (k : Nat) (h : k < s.size) : s.extract k (k + 1) = str [s[k]] := by
  apply ByteArray.ext
  rw [ByteArray.data_extract]
  apply Array.toList_inj.1
  show (s.data.extract k (k + 1)).toList = [s[k]]
  rw [Array.toList_extract, List.extract_eq_take_drop]
  have := bl_get s k h
  show ((bl s).drop k).take (k + 1 - k) = _
  rw [this]
  simp
theorem byte_eq (c d : UInt8) : ((c.toNat : Int) == (d.toNat : Int)) = decide (c = d) := by
  rw [Bool.eq_iff_iff]; simp
  rw [← UInt8.toNat_inj]; omega
theorem byte_is {c : UInt8} (d : UInt8) (h : c = d) : ((c.toNat : Int) == (d.toNat : Int)) = true ∧ ((c.toNat : Int) != (d.toNat : Int)) = false := by
  subst h; simp
theorem byte_no {c : UInt8} (d : UInt8) (h : c ≠ d) : ((c.toNat : Int) == (d.toNat : Int)) = false ∧ ((c.toNat : Int) != (d.toNat : Int)) = true := by
  have : ((c.toNat : Int) == (d.toNat : Int)) = false := by rw [byte_eq]; simpa using h
  exact ⟨this, by rw [bne, this]; rfl⟩
theorem dec_dig : ∀ (n : Nat), Lib.decDigits n = digL n := by
  intro n
  induction n using Nat.strongRecOn with
  | ind n ih =>
    unfold Lib.decDigits digL
    by_cases h : n < 10
    · rw [dif_pos h, dif_pos h]
    · rw [dif_neg h, dif_neg h, ih (n / 10) (by omega)]
def intL (n : Int) : List UInt8 := if n < 0 then 45 :: digL n.natAbs else digL n.toNat
theorem itoa_int (n : Int) : Lib.itoa n = intL n := by unfold Lib.itoa intL; rw [dec_dig, dec_dig]
theorem idx_cons (b : UInt8) (l : List UInt8) (c : UInt8) (h : ¬ b = c) : Lib.index (b :: l) [c] = if Lib.index l [c] == -1 then -1 else Lib.index l [c] + 1 := by
  conv => lhs; unfold Lib.index
  rw [if_neg (by simp only [List.isPrefixOf, Bool.and_true, beq_iff_eq]; exact fun e => h e.symm)]
theorem idx_hit (c : UInt8) (l : List UInt8) : Lib.index (c :: l) [c] = 0 := by
  unfold Lib.index
  rw [if_pos (by simp)]
theorem repl_cons (old : UInt8) (new : List UInt8) (k : Nat) (b : UInt8) (l : List UInt8) (h : ¬ b = old) : Lib.replaceK [old] new k (b :: l) = b :: Lib.replaceK [old] new k l := by
  cases k with
  | zero => rfl
  | succ k =>
    rw [Lib.replaceK, Lib.replaceK, idx_cons b l old h]
    have hge := Lib.index_ge l [old]
    by_cases hm : Lib.index l [old] = -1
    · rw [hm]; simp
    · obtain ⟨i, hi⟩ : ∃ i : Nat, Lib.index l [old] = i := ⟨(Lib.index l [old]).toNat, by omega⟩
      rw [hi]
      have e1 : ((i : Int) == -1) = false := beq_eq_false_iff_ne.2 (by omega)
      have e2 : ((i : Int) + 1 == -1) = false := beq_eq_false_iff_ne.2 (by omega)
      rw [e1]
      simp only [Bool.false_eq_true, if_false]
      rw [e2]
      simp only [Bool.false_eq_true, if_false]
      rw [show ((i : Int) + 1).toNat = i + 1 by omega, show (i : Int).toNat = i by omega]
      simp [List.take_succ_cons, Nat.add_right_comm, List.drop_succ_cons]
theorem repl_dbl : ∀ (s : List UInt8) (k : Nat), s.count 39 ≤ k → Lib.replaceK [39] [39, 39] k s = dbl s := by
  intro s
  induction s with
  | nil =>
    intro k _
    cases k with
    | zero => rfl
    | succ k =>
      rw [Lib.replaceK]
      simp [Lib.index, dbl]
  | cons b l ih =>
    intro k hk
    have hd : dbl (b :: l) = (if b = 39 then [39, 39] else [b]) ++ dbl l := by simp [dbl]
    rw [hd]
    by_cases hb : b = 39
    · subst hb
      rw [List.count_cons_self] at hk
      obtain ⟨k, rfl⟩ : ∃ j, k = j + 1 := ⟨k - 1, by omega⟩
      rw [Lib.replaceK_hit [39] [39, 39] k (39 :: l) 0 (idx_hit 39 l), if_pos rfl]
      rw [show (39 :: l).drop (0 + [(39 : UInt8)].length) = l by simp, ih k (by omega)]
      simp
    · rw [repl_cons _ _ _ _ _ hb, if_neg hb]
      rw [List.count_cons, if_neg (by simpa using hb)] at hk
      rw [ih k (by omega)]
      rfl
theorem replaceAll_dbl (s : List UInt8) : Lib.replaceAll s [39] [39, 39] = dbl s := by
  unfold Lib.replaceAll Lib.replace Lib.replaceNum
  rw [if_neg (by decide), if_pos (Or.inl (by decide)), Lib.count_one]
  exact repl_dbl s _ (Nat.le_refl _)
theorem add_strs (a b : List UInt8) (ha : a.length ≤ 1000000) (hb : b.length ≤ 1000000) (w : World) : (Op.stringOp .add (str a) (str b)).run Tryd.prog w = .ok (.string (str (a ++ b))) w := by
  rw [← str_app]
  exact run_string_add_sum _ _ _ (by rw [str_size, str_size]; omega)
theorem digL_len : ∀ (k n : Nat), 1 ≤ k → n < 10 ^ k → (digL n).length ≤ k := by
  intro k
  induction k with
  | zero => intro n h; omega
  | succ k ih =>
    intro n _ hn
    unfold digL
    split
    · simp
    · rename_i h
      rw [List.length_append, List.length_cons, List.length_nil]
      have hk : 1 ≤ k := by
        rcases Nat.eq_zero_or_pos k with h0 | h0
        · subst h0; simp at hn; omega
        · exact h0
      have := ih (n / 10) hk (by rw [Nat.pow_succ] at hn; omega)
      omega
theorem dig_ext (d : Nat) (h : d < 10) : (⟨#[48, 49, 50, 51, 52, 53, 54, 55, 56, 57]⟩ : ByteArray).extract d (d + 1) = str [UInt8.ofNat (48 + d)] := by
  match d, h with
  | 0, _ => decide +kernel
  | 1, _ => decide +kernel
  | 2, _ => decide +kernel
  | 3, _ => decide +kernel
  | 4, _ => decide +kernel
  | 5, _ => decide +kernel
  | 6, _ => decide +kernel
  | 7, _ => decide +kernel
  | 8, _ => decide +kernel
  | 9, _ => decide +kernel
theorem digL_lt {n : Nat} (h : n < 10) : digL n = [UInt8.ofNat (48 + n)] := by unfold digL; rw [dif_pos h]
theorem digL_ge {n : Nat} (h : ¬ n < 10) : digL n = digL (n / 10) ++ [UInt8.ofNat (48 + n % 10)] := by
  conv => lhs; unfold digL
  rw [dif_neg h]
/-- A digit's byte. -/
def digB (d : Nat) : UInt8 := UInt8.ofNat (48 + d)
/-- What the loop over a number holds. -/
def DigRel (v u : Nat) (acc : List UInt8) : Prop := (if u = 0 then acc else digL u ++ acc) = digL v
theorem DigRel.next {v u : Nat} {acc : List UInt8} (h : DigRel v u acc) (hu : 0 < u) : DigRel v (u / 10) (digB (u % 10) :: acc) := by
  unfold digB
  unfold DigRel at h ⊢
  rw [if_neg (by omega)] at h
  by_cases h10 : u < 10
  · rw [digL_lt h10] at h
    rw [if_pos (by omega), show u % 10 = u from by omega]
    exact h
  · rw [digL_ge h10] at h
    rw [if_neg (by omega), ← h, List.append_assoc]
    rfl
set_option maxHeartbeats 1000000 in
theorem refdigits_any (v : Nat) (w : World) (hv : (v : Int) ≤ 9223372036854775807) :
    Calls Tryd.prog 39 #[.int .i64 v] w fun e w' => e = .returned (.string (str (digL v))) ∧ w = w' := by
  have hlen := digL_len 19 v (by omega) (by omega)
  by_cases h0 : v = 0
  · subst h0
    have hd : str (digL 0) = ⟨#[48]⟩ := by rw [digL_lt (by omega)]; rfl
    rw [hd]
    clear hd hlen
    go_enter Tryd.func39, Tryd.ntmps39
    go_wp2
    go_ret
    exact ⟨rfl, rfl⟩
  · have e0 : ((v : Int) == 0) = false := by simpa using h0
    have e1 : ¬ (v : Int) < 0 := by omega
    go_enter Tryd.func39, Tryd.ntmps39
    go_wp2
    go_loop [3, 4] (fun u t => ∃ (n : Nat) (acc : List UInt8), u = .int .u64 n ∧ t = .string (str acc) ∧ (n : Int) ≤ 9223372036854775807 ∧ DigRel v n acc) (fun u _ => (intOf u).toNat)
    case atStart => exact ⟨v, [], rfl, rfl, hv, by unfold DigRel; rw [if_neg h0, List.append_nil]⟩
    case round =>
      obtain ⟨n, acc, rfl, rfl, hn, hr⟩ := hrel
      by_cases hlt : 0 < n
      · have hrn := hr.next hlt
        have hal : acc.length ≤ 19 := by
          unfold DigRel at hr
          rw [if_neg (by omega)] at hr
          rw [← hr, List.length_append] at hlen
          omega
        have HR := Lib.hid hrn
        have x1 : (0 : Int) < n := by omega
        have y1 : ((n : Int) % 10).toNat = n % 10 := by omega
        have hadd : ∀ w, (Op.stringOp .add ((⟨#[48, 49, 50, 51, 52, 53, 54, 55, 56, 57]⟩ : ByteArray).extract (n % 10) (n % 10 + 1)) (str acc)).run Tryd.prog w = .ok (.string (str (digB (n % 10) :: acc))) w := fun w => by
          unfold digB
          rw [dig_ext (n % 10) (by omega), show str (UInt8.ofNat (48 + n % 10) :: acc) = str [UInt8.ofNat (48 + n % 10)] ++ str acc from by rw [str_app]; rfl]
          exact run_string_add_sum _ _ _ (by rw [str_size, str_size]; simp; omega)
        clear hr hrn
        go_wp2
        refine ⟨⟨n / 10, _, by simp, rfl, by omega, HR.out⟩, by simp [intOf]; omega⟩
      · obtain rfl : n = 0 := by omega
        unfold DigRel at hr
        rw [if_pos rfl] at hr
        have HR := Lib.hid hr
        clear hr
        go_wp2
        go_ret
        exact ⟨by rw [← HR.out]; rfl, rfl⟩
set_option maxHeartbeats 1000000 in
theorem refdigits_neg (v : Nat) (w : World) (hv : (v : Int) ≤ 9223372036854775808) (h0 : 0 < v) :
    Calls Tryd.prog 39 #[.int .i64 (-(v : Int))] w fun e w' => e = .returned (.string (str (45 :: digL v))) ∧ w = w' := by
  have hlen := digL_len 19 v (by omega) (by omega)
  have e0 : (-(v : Int) == 0) = false := by simp; omega
  have e1 : -(v : Int) < 0 := by omega
  have a1 : ∀ w, (Op.stringOp .add ⟨#[45]⟩ (str (digL v))).run Tryd.prog w = .ok (.string (str (45 :: digL v))) w := fun w => add_strs [45] (digL v) (by simp) (by omega) w
  go_enter Tryd.func39, Tryd.ntmps39
  go_wp2
  go_loop [3, 4] (fun u t => ∃ (n : Nat) (acc : List UInt8), u = .int .u64 n ∧ t = .string (str acc) ∧ (n : Int) ≤ 9223372036854775808 ∧ DigRel v n acc) (fun u _ => (intOf u).toNat)
  case atStart => exact ⟨v, [], by rw [show -(-(v : Int) + 1) + 1 = v by omega], rfl, hv, by unfold DigRel; rw [if_neg (by omega), List.append_nil]⟩
  case round =>
    obtain ⟨n, acc, rfl, rfl, hn, hr⟩ := hrel
    by_cases hlt : 0 < n
    · have hrn := hr.next hlt
      have hal : acc.length ≤ 19 := by
        unfold DigRel at hr
        rw [if_neg (by omega)] at hr
        rw [← hr, List.length_append] at hlen
        omega
      have HR := Lib.hid hrn
      have x1 : (0 : Int) < n := by omega
      have y1 : ((n : Int) % 10).toNat = n % 10 := by omega
      have hadd : ∀ w, (Op.stringOp .add ((⟨#[48, 49, 50, 51, 52, 53, 54, 55, 56, 57]⟩ : ByteArray).extract (n % 10) (n % 10 + 1)) (str acc)).run Tryd.prog w = .ok (.string (str (digB (n % 10) :: acc))) w := fun w => by
        unfold digB
        rw [dig_ext (n % 10) (by omega), show str (UInt8.ofNat (48 + n % 10) :: acc) = str [UInt8.ofNat (48 + n % 10)] ++ str acc from by rw [str_app]; rfl]
        exact run_string_add_sum _ _ _ (by rw [str_size, str_size]; simp; omega)
      clear hr hrn
      go_wp2
      refine ⟨⟨n / 10, _, by simp, rfl, by omega, HR.out⟩, by simp [intOf]; omega⟩
    · obtain rfl : n = 0 := by omega
      unfold DigRel at hr
      rw [if_pos rfl] at hr
      subst hr
      go_wp2
      go_ret
      exact ⟨rfl, rfl⟩
theorem refdigits_int (n : Int) (w : World) (hn : I64 n) :
    Calls Tryd.prog 39 #[.int .i64 n] w fun e w' => e = .returned (.string (str (intL n))) ∧ w = w' := by
  obtain ⟨h1, h2⟩ := hn
  unfold intL
  by_cases h : n < 0
  · rw [if_pos h]
    have := refdigits_neg n.natAbs w (by omega) (by omega)
    rwa [show -((n.natAbs : Nat) : Int) = n by omega] at this
  · rw [if_neg h]
    have := refdigits_any n.toNat w (by omega)
    rwa [show ((n.toNat : Nat) : Int) = n by omega] at this
theorem dbl_snoc (s : ByteArray) (k : Nat) (h : k < s.size) : dbl ((bl s).take (k + 1)) = dbl ((bl s).take k) ++ if s[k] = 39 then [39, 39] else [s[k]] := by
  have hl : k < (bl s).length := by rw [bl_len]; exact h
  rw [List.take_succ_eq_append_getElem hl]
  unfold dbl
  rw [List.flatMap_append]
  have : (bl s)[k] = s[k] := rfl
  rw [this]
  simp
theorem dbl_len (l : List UInt8) : (dbl l).length ≤ 2 * l.length := by
  induction l with
  | nil => simp [dbl]
  | cons c l ih =>
    have : dbl (c :: l) = (if c = 39 then [39, 39] else [c]) ++ dbl l := by simp [dbl]
    rw [this, List.length_append, List.length_cons]
    split <;> simp <;> omega
def showL (v : Val) : List UInt8 := if v.May then (if v.kind = 1 then (if v.n = 1 then [84, 82, 85, 69] else [70, 65, 76, 83, 69]) else if v.kind = 2 then intL v.n else if v.kind = 3 then 39 :: dbl v.s ++ [39] else [78, 85, 76, 76]) else []
def ShowP (v : Val) (w : World) (e : Ending) (w' : World) : Prop := e = .returned (.string (str (showL v))) ∧ Same (fun _ => True) w w'
-- ShowRel is not wanted
set_option maxHeartbeats 1000000 in
theorem refshow_text (s : ByteArray) (w : World) (hs : s.size ≤ 64) :
    Calls Tryd.prog 19 #[.agg #[.int .i64 3, .int .i64 0, .string s]] w fun e w' => e = .returned (.string (str (39 :: dbl (bl s) ++ [39]))) ∧ Same (fun _ => True) w w' := by
  have hmv : mayV ⟨3, 0, bl s⟩ = true := by unfold mayV; simp [bl_len, hs]
  have hMay := fun W => refMay_any ⟨3, 0, bl s⟩ W
  rw [hmv] at hMay
  have hMay : ∀ W, Calls Tryd.prog 17 #[.agg #[.int .i64 3, .int .i64 0, .string s]] W (BoolP true W) := hMay
  unfold BoolP at hMay
  clear hmv
  go_enter Tryd.func19, Tryd.ntmps19
  go_wp2_with (go_at_call 17; refine stopAt ?_)
  unfold Hid
  refine (hMay _).mono ?_
  rintro e w1 ⟨rfl, hS⟩
  have hrow := (Row.new w 24 [.int .i64 3, .int .i64 0, .string s]).keep hS trivial
  have c0 := hrow.cell 0
  have c1 := hrow.cell 1
  have c2 := hrow.cell 2
  simp at c0 c1 c2
  have HS := Lib.hid (((Same.refl (fun _ => True) w).alloc _).trans hS)
  clear hS hrow
  go_wp2
  go_loop [3, 4] (fun t i => ∃ k : Nat, k ≤ s.size ∧ i = .int .i64 k ∧ t = .string (str (39 :: dbl ((bl s).take k)))) (fun _ i => s.size - (intOf i).toNat)
  case atStart => exact ⟨0, Nat.zero_le _, rfl, rfl⟩
  case round =>
    obtain ⟨k, hk, rfl, rfl⟩ := hrel
    have hdl := dbl_len ((bl s).take k)
    have hlt' : ((bl s).take k).length ≤ k := List.length_take_le _ _
    by_cases hlt : k < s.size
    · have hsn := dbl_snoc s k hlt
      have x1 : (0 : Int) ≤ k := by omega
      have x2 : (k : Int) < s.size := by omega
      by_cases hq : s[k] = 39
      · obtain ⟨q1, -⟩ := byte_is 39 hq
        simp only [show (((39 : UInt8).toNat : Nat) : Int) = 39 from rfl] at q1
        rw [if_pos hq] at hsn
        have a1 : ∀ w, (Op.stringOp .add (str (39 :: dbl ((bl s).take k))) ⟨#[39]⟩).run Tryd.prog w = .ok (.string (str (39 :: (dbl ((bl s).take k) ++ [39])))) w := fun w => add_strs (39 :: dbl ((bl s).take k)) [39] (by simp; omega) (by simp) w
        have a2 : ∀ w, (Op.stringOp .add (str (39 :: (dbl ((bl s).take k) ++ [39]))) (s.extract k (k + 1))).run Tryd.prog w = .ok (.string (str (39 :: dbl ((bl s).take (k + 1))))) w := fun w => by
          rw [ext_one s k hlt, hq, hsn]
          have := add_strs (39 :: (dbl ((bl s).take k) ++ [39])) [39] (by simp; omega) (by simp) w
          rw [this]
          simp
        clear hsn hq
        go_wp2
        exact ⟨⟨k + 1, by omega, by go_num, rfl⟩, by simp [intOf]; omega⟩
      · obtain ⟨q1, -⟩ := byte_no 39 hq
        simp only [show (((39 : UInt8).toNat : Nat) : Int) = 39 from rfl] at q1
        rw [if_neg hq] at hsn
        have a2 : ∀ w, (Op.stringOp .add (str (39 :: dbl ((bl s).take k))) (s.extract k (k + 1))).run Tryd.prog w = .ok (.string (str (39 :: dbl ((bl s).take (k + 1))))) w := fun w => by
          rw [ext_one s k hlt, hsn]
          exact add_strs (39 :: dbl ((bl s).take k)) [s[k]] (by simp; omega) (by simp) w
        clear hsn hq
        go_wp2
        exact ⟨⟨k + 1, by omega, by go_num, rfl⟩, by simp [intOf]; omega⟩
    · obtain rfl : k = s.size := by omega
      have e1 : (bl s).take s.size = bl s := List.take_of_length_le (by rw [bl_len]; exact Nat.le_refl _)
      rw [e1]
      rw [e1, bl_len] at hdl
      have a1 : ∀ w, (Op.stringOp .add (str (39 :: dbl (bl s))) ⟨#[39]⟩).run Tryd.prog w = .ok (.string (str (39 :: (dbl (bl s) ++ [39])))) w := fun w => add_strs (39 :: dbl (bl s)) [39] (by simp; omega) (by simp) w
      go_wp2
      go_ret
      exact ⟨rfl, HS.out⟩
end Go.Proofs.YtpbekhcogpkbpaaDoor
