/-
  Words, plain models, laws and walks that the claims of this layer share (joined by shake.py). No condition.
-/
import Derived.Lib.AppendIntMem
import Derived.Test.YtdfojghhpdkpfaaGreatDoorG8
set_option linter.unusedSimpArgs false
set_option linter.unusedVariables false
namespace Go.Proofs.YtdfojghhpdkpfaaGreatDoor
open Go.RowKit
theorem dec_dig : ∀ (n : Nat), Lib.decDigits n = digL n := by
 intro n
 induction n using Nat.strongRecOn with
 | ind n ih =>
  unfold Lib.decDigits digL;by_cases h : n < 10
  ·rw [dif_pos h, dif_pos h]
  ·rw [dif_neg h, dif_neg h, ih (n / 10) (by omega)]
theorem itoa_int (n : Int) : Lib.itoa n = intL n := by unfold Lib.itoa intL; rw [dec_dig, dec_dig]
theorem idx_cons (b : UInt8) (l : List UInt8) (c : UInt8) (h : ¬ b = c) : Lib.index (b :: l) [c] = if Lib.index l [c] == -1 then -1 else Lib.index l [c] + 1 := by
 conv => lhs; unfold Lib.index
 rw [if_neg (by simp only [List.isPrefixOf, Bool.and_true, beq_iff_eq]; exact fun e => h e.symm)]
theorem idx_hit (c : UInt8) (l : List UInt8) : Lib.index (c :: l) [c] = 0 := by
 unfold Lib.index;rw [if_pos (by simp)]
theorem repl_cons (old : UInt8) (new : List UInt8) (k : Nat) (b : UInt8) (l : List UInt8) (h : ¬ b = old) : Lib.replaceK [old] new k (b :: l) = b :: Lib.replaceK [old] new k l := by
 cases k with
 | zero => rfl
 | succ k =>
  rw [Lib.replaceK, Lib.replaceK, idx_cons b l old h];have hge := Lib.index_ge l [old];by_cases hm : Lib.index l [old] = -1
  ·rw [hm]; simp
  ·obtain ⟨i, hi⟩ : ∃ i : Nat, Lib.index l [old] = i := ⟨(Lib.index l [old]).toNat, by omega⟩;rw [hi];have e1 : ((i : Int) == -1) = false := beq_eq_false_iff_ne.2 (by omega);have e2 : ((i : Int) + 1 == -1) = false := beq_eq_false_iff_ne.2 (by omega);rw [e1];simp only [Bool.false_eq_true, if_false];rw [e2];simp only [Bool.false_eq_true, if_false];rw [show ((i : Int) + 1).toNat = i + 1 by omega, show (i : Int).toNat = i by omega];simp [List.take_succ_cons, Nat.add_right_comm, List.drop_succ_cons]
theorem repl_dbl : ∀ (s : List UInt8) (k : Nat), s.count 39 ≤ k → Lib.replaceK [39] [39, 39] k s = dbl s := by
 intro s
 induction s with
 | nil =>
  intro k _;cases k with
  | zero => rfl
  | succ k =>
   rw [Lib.replaceK];simp [Lib.index, dbl]
 | cons b l ih =>
  intro k hk;have hd : dbl (b :: l) = (if b = 39 then [39, 39] else [b]) ++ dbl l := by simp [dbl]
  rw [hd];by_cases hb : b = 39
  ·subst hb;rw [List.count_cons_self] at hk;obtain ⟨k, rfl⟩ : ∃ j, k = j + 1 := ⟨k - 1, by omega⟩;rw [Lib.replaceK_hit [39] [39, 39] k (39 :: l) 0 (idx_hit 39 l), if_pos rfl];rw [show (39 :: l).drop (0 + [(39 : UInt8)].length) = l by simp, ih k (by omega)];simp
  ·rw [repl_cons _ _ _ _ _ hb, if_neg hb];rw [List.count_cons, if_neg (by simpa using hb)] at hk;rw [ih k (by omega)];rfl
theorem replaceAll_dbl (s : List UInt8) : Lib.replaceAll s [39] [39, 39] = dbl s := by
 unfold Lib.replaceAll Lib.replace Lib.replaceNum;rw [if_neg (by decide), if_pos (Or.inl (by decide)), Lib.count_one];exact repl_dbl s _ (Nat.le_refl _)
theorem add_strs (a b : List UInt8) (ha : a.length ≤ 1000000) (hb : b.length ≤ 1000000) (w : World) : (Op.stringOp .add (str a) (str b)).run Tryz.prog w = .ok (.string (str (a ++ b))) w := by
 rw [← str_app];exact run_string_add_sum _ _ _ (by rw [str_size, str_size]; omega)
theorem digL_len : ∀ (k n : Nat), 1 ≤ k → n < 10 ^ k → (digL n).length ≤ k := by
 intro k
 induction k with
 | zero => intro n h; omega
 | succ k ih =>
  intro n _ hn;unfold digL;split
  ·simp
  ·rename_i h;rw [List.length_append, List.length_cons, List.length_nil]
   have hk : 1 ≤ k := by
    rcases Nat.eq_zero_or_pos k with h0 | h0
    ·subst h0; simp at hn; omega
    ·exact h0
   have := ih (n / 10) hk (by rw [Nat.pow_succ] at hn; omega);omega
theorem dig_ext (d : Nat) (h : d < 10) : (⟨#[48, 49, 50, 51, 52, 53, 54, 55, 56, 57]⟩ : ByteArray).extract d (d + 1) = str [UInt8.ofNat (48 + d)] := by
 match d, h with
 | 0, _ => decide +kernel
 | 1, _ => decide +kernel
 | 2, _ => decide +kernel
 | 3, _ => decide +kernel
 | 4, _ => decide +kernel
 | 5, _ => decide +kernel
 | 6, _ => decide +kernel
 | 7, _ => decide +kernel
 | 8, _ => decide +kernel
 | 9, _ => decide +kernel
theorem digL_lt {n : Nat} (h : n < 10) : digL n = [UInt8.ofNat (48 + n)] := by unfold digL; rw [dif_pos h]
theorem digL_ge {n : Nat} (h : ¬ n < 10) : digL n = digL (n / 10) ++ [UInt8.ofNat (48 + n % 10)] := by
 conv => lhs; unfold digL
 rw [dif_neg h]
/-- A digit's byte. -/
def digB (d : Nat) : UInt8 := UInt8.ofNat (48 + d)
/-- What the loop over a number holds. -/
def DigRel (v u : Nat) (acc : List UInt8) : Prop := (if u = 0 then acc else digL u ++ acc) = digL v
theorem DigRel.next {v u : Nat} {acc : List UInt8} (h : DigRel v u acc) (hu : 0 < u) : DigRel v (u / 10) (digB (u % 10) :: acc) := by
 unfold digB;unfold DigRel at h ⊢;rw [if_neg (by omega)] at h;by_cases h10 : u < 10
 ·rw [digL_lt h10] at h;rw [if_pos (by omega), show u % 10 = u from by omega];exact h
 ·rw [digL_ge h10] at h;rw [if_neg (by omega), ← h, List.append_assoc];rfl
set_option maxHeartbeats 1000000 in
theorem refdigits_any (v : Nat) (w : World) (hv : (v : Int) ≤ 9223372036854775807) :
  Calls Tryz.prog 29 #[.int .i64 v] w fun e w' => e = .returned (.string (str (digL v))) ∧ w = w' := by
 have hlen := digL_len 19 v (by omega) (by omega);by_cases h0 : v = 0
 ·subst h0;have hd : str (digL 0) = ⟨#[48]⟩ := by rw [digL_lt (by omega)]; rfl
  rw [hd];clear hd hlen;go_enter Tryz.func29, Tryz.ntmps29;go_wp2;go_ret;exact ⟨rfl, rfl⟩
 ·have e0 : ((v : Int) == 0) = false := by simpa using h0
  have e1 : ¬ (v : Int) < 0 := by omega
  go_enter Tryz.func29, Tryz.ntmps29;go_wp2;go_loop [3, 4] (fun u t => ∃ (n : Nat) (acc : List UInt8), u = .int .u64 n ∧ t = .string (str acc) ∧ (n : Int) ≤ 9223372036854775807 ∧ DigRel v n acc) (fun u _ => (intOf u).toNat)
  case atStart => exact ⟨v, [], rfl, rfl, hv, by unfold DigRel; rw [if_neg h0, List.append_nil]⟩
  case round =>
   obtain ⟨n, acc, rfl, rfl, hn, hr⟩ := hrel;by_cases hlt : 0 < n
   ·have hrn := hr.next hlt
    have hal : acc.length ≤ 19 := by
     unfold DigRel at hr;rw [if_neg (by omega)] at hr;rw [← hr, List.length_append] at hlen;omega
    have HR := LH hrn;have x1 : (0 : Int) < n := by omega
    have y1 : ((n : Int) % 10).toNat = n % 10 := by omega
    have hadd : ∀ w, (Op.stringOp .add ((⟨#[48, 49, 50, 51, 52, 53, 54, 55, 56, 57]⟩ : ByteArray).extract (n % 10) (n % 10 + 1)) (str acc)).run Tryz.prog w = .ok (.string (str (digB (n % 10) :: acc))) w := fun w => by
     unfold digB;rw [dig_ext (n % 10) (by omega), show str (UInt8.ofNat (48 + n % 10) :: acc) = str [UInt8.ofNat (48 + n % 10)] ++ str acc from by rw [str_app]; rfl];exact run_string_add_sum _ _ _ (by rw [str_size, str_size]; simp; omega)
    clear hr hrn;go_wp2;refine ⟨⟨n / 10, _, by simp, rfl, by omega, HR.out⟩, by simp [intOf]; omega⟩
   ·obtain rfl : n = 0 := by omega
    unfold DigRel at hr;rw [if_pos rfl] at hr;have HR := LH hr;clear hr;go_wp2;go_ret;exact ⟨by rw [← HR.out]; rfl, rfl⟩
set_option maxHeartbeats 1000000 in
theorem refdigits_neg (v : Nat) (w : World) (hv : (v : Int) ≤ 9223372036854775808) (h0 : 0 < v) :
  Calls Tryz.prog 29 #[.int .i64 (-(v : Int))] w fun e w' => e = .returned (.string (str (45 :: digL v))) ∧ w = w' := by
 have hlen := digL_len 19 v (by omega) (by omega);have e0 : (-(v : Int) == 0) = false := by simp; omega
 have e1 : -(v : Int) < 0 := by omega
 have a1 : ∀ w, (Op.stringOp .add ⟨#[45]⟩ (str (digL v))).run Tryz.prog w = .ok (.string (str (45 :: digL v))) w := fun w => add_strs [45] (digL v) (by simp) (by omega) w
 go_enter Tryz.func29, Tryz.ntmps29;go_wp2;go_loop [3, 4] (fun u t => ∃ (n : Nat) (acc : List UInt8), u = .int .u64 n ∧ t = .string (str acc) ∧ (n : Int) ≤ 9223372036854775808 ∧ DigRel v n acc) (fun u _ => (intOf u).toNat)
 case atStart => exact ⟨v, [], by rw [show -(-(v : Int) + 1) + 1 = v by omega], rfl, hv, by unfold DigRel; rw [if_neg (by omega), List.append_nil]⟩
 case round =>
  obtain ⟨n, acc, rfl, rfl, hn, hr⟩ := hrel;by_cases hlt : 0 < n
  ·have hrn := hr.next hlt
   have hal : acc.length ≤ 19 := by
    unfold DigRel at hr;rw [if_neg (by omega)] at hr;rw [← hr, List.length_append] at hlen;omega
   have HR := LH hrn;have x1 : (0 : Int) < n := by omega
   have y1 : ((n : Int) % 10).toNat = n % 10 := by omega
   have hadd : ∀ w, (Op.stringOp .add ((⟨#[48, 49, 50, 51, 52, 53, 54, 55, 56, 57]⟩ : ByteArray).extract (n % 10) (n % 10 + 1)) (str acc)).run Tryz.prog w = .ok (.string (str (digB (n % 10) :: acc))) w := fun w => by
    unfold digB;rw [dig_ext (n % 10) (by omega), show str (UInt8.ofNat (48 + n % 10) :: acc) = str [UInt8.ofNat (48 + n % 10)] ++ str acc from by rw [str_app]; rfl];exact run_string_add_sum _ _ _ (by rw [str_size, str_size]; simp; omega)
   clear hr hrn;go_wp2;refine ⟨⟨n / 10, _, by simp, rfl, by omega, HR.out⟩, by simp [intOf]; omega⟩
  ·obtain rfl : n = 0 := by omega
   unfold DigRel at hr;rw [if_pos rfl] at hr;subst hr;go_wp2;go_ret;exact ⟨rfl, rfl⟩
theorem refdigits_int (n : Int) (w : World) (hn : I64 n) :
  Calls Tryz.prog 29 #[.int .i64 n] w fun e w' => e = .returned (.string (str (intL n))) ∧ w = w' := by
 obtain ⟨h1, h2⟩ := hn;unfold intL;by_cases h : n < 0
 ·rw [if_pos h];have := refdigits_neg n.natAbs w (by omega) (by omega);rwa [show -((n.natAbs : Nat) : Int) = n by omega] at this
 ·rw [if_neg h];have := refdigits_any n.toNat w (by omega);rwa [show ((n.toNat : Nat) : Int) = n by omega] at this
theorem dbl_snoc (s : ByteArray) (k : Nat) (h : k < s.size) : dbl ((bl s).take (k + 1)) = dbl ((bl s).take k) ++ if s[k] = 39 then [39, 39] else [s[k]] := by
 have hl : k < (bl s).length := by rw [bl_len]; exact h
 rw [List.take_succ_eq_append_getElem hl];unfold dbl;rw [List.flatMap_append];have : (bl s)[k] = s[k] := rfl;rw [this];simp
theorem dbl_len (l : List UInt8) : (dbl l).length ≤ 2 * l.length := by
 induction l with
 | nil => simp [dbl]
 | cons c l ih =>
  have : dbl (c :: l) = (if c = 39 then [39, 39] else [c]) ++ dbl l := by simp [dbl]
  rw [this, List.length_append, List.length_cons];split <;> simp <;> omega
def ShowP (v : Val) (w : World) (e : Ending) (w' : World) : Prop := e = .returned (.string (str (showL v))) ∧ Same (fun _ => True) w w'
-- ShowRel is not wanted
set_option maxHeartbeats 1000000 in
theorem refshow_text (s : ByteArray) (w : World) (hs : s.size ≤ 64) :
  Calls Tryz.prog 98 #[.agg #[.int .i64 3, .int .i64 0, .string s]] w fun e w' => e = .returned (.string (str (39 :: dbl (bl s) ++ [39]))) ∧ Same (fun _ => True) w w' := by
 have hmv : mayV ⟨3, 0, bl s⟩ = true := by unfold mayV; simp [bl_len, hs]
 have hMay := fun W => refMay_any ⟨3, 0, bl s⟩ W
 rw [hmv] at hMay;have hMay : ∀ W, Calls Tryz.prog 123 #[.agg #[.int .i64 3, .int .i64 0, .string s]] W (BoolP true W) := hMay;unfold BoolP at hMay;clear hmv;go_enter Tryz.func98, Tryz.ntmps98;go_wp2_with (go_at_call 123; refine stopAt ?_);unfold Hid;refine (hMay _).mono ?_;rintro e w1 ⟨rfl, hS⟩;have hrow := (Row.new w 31 [.int .i64 3, .int .i64 0, .string s]).keep hS tv;have c0 := hrow.cell 0;have c1 := hrow.cell 1;have c2 := hrow.cell 2;simp at c0 c1 c2;have HS := LH (((Same.refl (fun _ => True) w).alloc _).trans hS);clear hS hrow;go_wp2;go_loop [3, 4] (fun t i => ∃ k : Nat, k ≤ s.size ∧ i = .int .i64 k ∧ t = .string (str (39 :: dbl ((bl s).take k)))) (fun _ i => s.size - (intOf i).toNat)
 case atStart => exact ⟨0, Nat.zero_le _, rfl, rfl⟩
 case round =>
  obtain ⟨k, hk, rfl, rfl⟩ := hrel;have hdl := dbl_len ((bl s).take k);have hlt' : ((bl s).take k).length ≤ k := List.length_take_le _ _;by_cases hlt : k < s.size
  ·have hsn := dbl_snoc s k hlt;have x1 : (0 : Int) ≤ k := by omega
   have x2 : (k : Int) < s.size := by omega
   by_cases hq : s[k] = 39
   ·obtain ⟨q1, -⟩ := byte_is 39 hq;simp only [show (((39 : UInt8).toNat : Nat) : Int) = 39 from rfl] at q1;rw [if_pos hq] at hsn;have a1 : ∀ w, (Op.stringOp .add (str (39 :: dbl ((bl s).take k))) ⟨#[39]⟩).run Tryz.prog w = .ok (.string (str (39 :: (dbl ((bl s).take k) ++ [39])))) w := fun w => add_strs (39 :: dbl ((bl s).take k)) [39] (by simp; omega) (by simp) w
    have a2 : ∀ w, (Op.stringOp .add (str (39 :: (dbl ((bl s).take k) ++ [39]))) (s.extract k (k + 1))).run Tryz.prog w = .ok (.string (str (39 :: dbl ((bl s).take (k + 1))))) w := fun w => by
     rw [ext_one s k hlt, hq, hsn];have := add_strs (39 :: (dbl ((bl s).take k) ++ [39])) [39] (by simp; omega) (by simp) w;rw [this];simp
    clear hsn hq;go_wp2;exact ⟨⟨k + 1, by omega, by go_num, rfl⟩, by simp [intOf]; omega⟩
   ·obtain ⟨q1, -⟩ := byte_no 39 hq;simp only [show (((39 : UInt8).toNat : Nat) : Int) = 39 from rfl] at q1;rw [if_neg hq] at hsn
    have a2 : ∀ w, (Op.stringOp .add (str (39 :: dbl ((bl s).take k))) (s.extract k (k + 1))).run Tryz.prog w = .ok (.string (str (39 :: dbl ((bl s).take (k + 1))))) w := fun w => by
     rw [ext_one s k hlt, hsn];exact add_strs (39 :: dbl ((bl s).take k)) [s[k]] (by simp; omega) (by simp) w
    clear hsn hq;go_wp2;exact ⟨⟨k + 1, by omega, by go_num, rfl⟩, by simp [intOf]; omega⟩
  ·obtain rfl : k = s.size := by omega
   have e1 : (bl s).take s.size = bl s := List.take_of_length_le (by rw [bl_len]; exact Nat.le_refl _);rw [e1];rw [e1, bl_len] at hdl;have a1 : ∀ w, (Op.stringOp .add (str (39 :: dbl (bl s))) ⟨#[39]⟩).run Tryz.prog w = .ok (.string (str (39 :: (dbl (bl s) ++ [39])))) w := fun w => add_strs (39 :: dbl (bl s)) [39] (by simp; omega) (by simp) w
   go_wp2;go_ret;exact ⟨rfl, HS.out⟩
/-- What Go's library asks of its own variables: the powers of ten, and some number in bytealg.MaxLen. -/
structure EnvT (w : World) : Prop where
 tab : Lib.TabIs Tryz.prog w "internal/strconv.uint64pow10" .u64 Lib.pow10Tab
 max : Mx w
theorem pow_at : Tryz.prog.globalNamed "internal/strconv.uint64pow10" = some 0 := by kernel_rfl
theorem EnvT.lt {w : World} (h : EnvT w) : 1 < w.heap.size ∧ 0 < w.heap.size := by
 refine ⟨h.max.lt, ?_⟩;have ht := h.tab.cell pow_at 0 (by decide);exact World.block_lt_of_cell? w ⟨0, 0, none⟩ ht
theorem EnvT.keep {w w' : World} {S : Nat → Prop} (h : EnvT w) (hs : Same S w w') (h0 : S 1) (h1 : S 0) : EnvT w' := by
 have b1 := hs.block 0 h.lt.2 h1;refine ⟨?_, h.max.keepS hs h0⟩;have := h.tab;unfold Lib.TabIs World.var? at this ⊢;rw [pow_at] at this ⊢;simp only [Option.bind_some] at this ⊢;rw [b1];exact this
theorem EnvT.keepAll {w w' : World} (h : EnvT w) (hs : Same (fun _ => True) w w') : EnvT w' := h.keep hs tv tv
set_option maxRecDepth 100000 in
set_option maxHeartbeats 1000000 in
theorem show_no (v : Val) (w : World) (hm : ¬ v.May) : Calls Tryz.prog 91 #[valV v] w (ShowP v w) := by
 have hmv : mayV v = false := by rw [Bool.eq_false_iff]; intro h; exact hm ((mayV_iff v).1 h)
 have hsh : showL v = [] := by unfold showL; rw [if_neg hm]
 unfold ShowP;rw [hsh];clear hsh hm;have hMay := fun W => exMay_any v W
 unfold BoolP at hMay;rw [hmv] at hMay;clear hmv;go_enter Tryz.func91, Tryz.ntmps91;go_wp2_with (go_at_call 100; refine stopAt ?_);unfold Hid;refine (hMay _).mono ?_;rintro e w1 ⟨rfl, hS⟩;have hrow := (Row.new w 31 (valCs v)).keep hS tv;obtain ⟨c0, c1, c2, -, -, -⟩ := val_cells hrow;have hlb := hrow.lt;have hsm := ((Same.refl (fun _ => True) w).alloc (.cells (valCs v).toArray 31)).trans hS;have HS := LH hsm
 try dsimp only at c0 c1 c2
 clear hS hrow hsm;go_wp2;go_ret;exact ⟨rfl, HS.out⟩
set_option maxRecDepth 100000 in
set_option maxHeartbeats 1000000 in
theorem show_null (w : World) : Calls Tryz.prog 91 #[valV ⟨0, 0, []⟩] w (ShowP ⟨0, 0, []⟩ w) := by
 have hmv : mayV ⟨0, 0, []⟩ = true := by decide
 have hsh : showL ⟨0, 0, []⟩ = [78, 85, 76, 76] := by unfold showL; rw [if_pos (by decide)]; rfl
 unfold ShowP;rw [hsh];clear hsh;have hMay := fun W => exMay_any ⟨0, 0, []⟩ W
 unfold BoolP at hMay;rw [hmv] at hMay;clear hmv;go_enter Tryz.func91, Tryz.ntmps91;go_wp2_with (go_at_call 100; refine stopAt ?_);unfold Hid;refine (hMay _).mono ?_;rintro e w1 ⟨rfl, hS⟩;have hrow := (Row.new w 31 (valCs ⟨0, 0, []⟩)).keep hS tv;obtain ⟨c0, c1, c2, -, -, -⟩ := val_cells hrow;have hlb := hrow.lt;have hsm := ((Same.refl (fun _ => True) w).alloc (.cells (valCs ⟨0, 0, []⟩).toArray 31)).trans hS;have HS := LH hsm
 try dsimp only at c0 c1 c2
 clear hS hrow hsm;go_wp2;go_ret;exact ⟨rfl, HS.out⟩
set_option maxRecDepth 100000 in
set_option maxHeartbeats 1000000 in
theorem show_true (w : World) : Calls Tryz.prog 91 #[valV ⟨1, 1, []⟩] w (ShowP ⟨1, 1, []⟩ w) := by
 have hmv : mayV ⟨1, 1, []⟩ = true := by decide
 have hsh : showL ⟨1, 1, []⟩ = [84, 82, 85, 69] := by unfold showL; rw [if_pos (by decide)]; rfl
 unfold ShowP;rw [hsh];clear hsh;have hMay := fun W => exMay_any ⟨1, 1, []⟩ W
 unfold BoolP at hMay;rw [hmv] at hMay;clear hmv;go_enter Tryz.func91, Tryz.ntmps91;go_wp2_with (go_at_call 100; refine stopAt ?_);unfold Hid;refine (hMay _).mono ?_;rintro e w1 ⟨rfl, hS⟩;have hrow := (Row.new w 31 (valCs ⟨1, 1, []⟩)).keep hS tv;obtain ⟨c0, c1, c2, -, -, -⟩ := val_cells hrow;have hlb := hrow.lt;have hsm := ((Same.refl (fun _ => True) w).alloc (.cells (valCs ⟨1, 1, []⟩).toArray 31)).trans hS;have HS := LH hsm
 try dsimp only at c0 c1 c2
 clear hS hrow hsm;go_wp2;go_ret;exact ⟨rfl, HS.out⟩
set_option maxRecDepth 100000 in
set_option maxHeartbeats 1000000 in
theorem show_false (w : World) : Calls Tryz.prog 91 #[valV ⟨1, 0, []⟩] w (ShowP ⟨1, 0, []⟩ w) := by
 have hmv : mayV ⟨1, 0, []⟩ = true := by decide
 have hsh : showL ⟨1, 0, []⟩ = [70, 65, 76, 83, 69] := by unfold showL; rw [if_pos (by decide)]; rfl
 unfold ShowP;rw [hsh];clear hsh;have hMay := fun W => exMay_any ⟨1, 0, []⟩ W
 unfold BoolP at hMay;rw [hmv] at hMay;clear hmv;go_enter Tryz.func91, Tryz.ntmps91;go_wp2_with (go_at_call 100; refine stopAt ?_);unfold Hid;refine (hMay _).mono ?_;rintro e w1 ⟨rfl, hS⟩;have hrow := (Row.new w 31 (valCs ⟨1, 0, []⟩)).keep hS tv;obtain ⟨c0, c1, c2, -, -, -⟩ := val_cells hrow;have hlb := hrow.lt;have hsm := ((Same.refl (fun _ => True) w).alloc (.cells (valCs ⟨1, 0, []⟩).toArray 31)).trans hS;have HS := LH hsm
 try dsimp only at c0 c1 c2
 clear hS hrow hsm;go_wp2;go_ret;exact ⟨rfl, HS.out⟩
set_option maxRecDepth 100000 in
set_option maxHeartbeats 1000000 in
theorem show_int (n : Int) (w : World) (hn : I64 n) (hE : EnvT w) : Calls Tryz.prog 91 #[valV ⟨2, n, []⟩] w (ShowP ⟨2, n, []⟩ w) := by
 have hmv : mayV ⟨2, n, []⟩ = true := by unfold mayV; simp
 have hsh : showL ⟨2, n, []⟩ = intL n := by unfold showL Val.May; simp
 unfold ShowP;rw [hsh];clear hsh;have hMay := fun W => exMay_any ⟨2, n, []⟩ W
 unfold BoolP at hMay;rw [hmv] at hMay;clear hmv;go_enter Tryz.func91, Tryz.ntmps91;go_wp2_with (go_at_call 100; refine stopAt ?_);unfold Hid;refine (hMay _).mono ?_;rintro e w1 ⟨rfl, hS⟩;have hrow := (Row.new w 31 (valCs ⟨2, n, []⟩)).keep hS tv;obtain ⟨c0, c1, c2, -, -, -⟩ := val_cells hrow;have hlb := hrow.lt;have hsm := ((Same.refl (fun _ => True) w).alloc (.cells (valCs ⟨2, n, []⟩).toArray 31)).trans hS;have HS := LH hsm
 try dsimp only at c0 c1 c2
 have hEw := hE.keepAll hsm;have hfi := Tryz.strconv_FormatInt_10 n hn.1 hn.2 w1 hEw.tab;rw [itoa_int] at hfi;clear hS hrow hsm hE hEw;go_wp2_with (go_at_call 27; refine stopAt ?_);unfold Hid;refine hfi.mono ?_;rintro e w2 ⟨rfl, kk, os, rfl⟩;have hs2 : Same (fun _ => True) w1 (Sort.grow (w1.drewN kk) os) := (Same.ofBelow (Lib.below_grow w1.heap.size w1 (Nat.le_refl _) kk os)).mono fun i hi _ => hi
 have HS2 := LH (HS.out.trans hs2);clear hs2 hfi;go_wp2;go_ret;exact ⟨rfl, HS2.out⟩
set_option maxRecDepth 100000 in
set_option maxHeartbeats 1000000 in
theorem show_text (s : List UInt8) (w : World) (hs : s.length ≤ 64) (hE : EnvT w) : Calls Tryz.prog 91 #[valV ⟨3, 0, s⟩] w (ShowP ⟨3, 0, s⟩ w) := by
 have hmv : mayV ⟨3, 0, s⟩ = true := by unfold mayV; simp [hs]
 have hsh : showL ⟨3, 0, s⟩ = 39 :: dbl s ++ [39] := by unfold showL Val.May; simp [hs]
 have hdl := dbl_len s;have hrd := replaceAll_dbl s;unfold ShowP;rw [hsh];obtain ⟨D, hD⟩ : ∃ D, D = dbl s := ⟨_, rfl⟩;rw [← hD] at hdl hrd ⊢;clear hsh hD;rw [show 39 :: D ++ [39] = 39 :: (D ++ [39]) from rfl];have hMay := fun W => exMay_any ⟨3, 0, s⟩ W
 unfold BoolP at hMay;rw [hmv] at hMay;clear hmv;go_enter Tryz.func91, Tryz.ntmps91;go_wp2_with (go_at_call 100; refine stopAt ?_);unfold Hid;refine (hMay _).mono ?_;rintro e w1 ⟨rfl, hS⟩;have hrow := (Row.new w 31 (valCs ⟨3, 0, s⟩)).keep hS tv;obtain ⟨c0, c1, c2, -, -, -⟩ := val_cells hrow;have hlb := hrow.lt;have hsm := ((Same.refl (fun _ => True) w).alloc (.cells (valCs ⟨3, 0, s⟩).toArray 31)).trans hS;have HS := LH hsm
 try dsimp only at c0 c1 c2
 have hEw := hE.keepAll hsm;obtain ⟨m, hmx⟩ := hEw.max;have hcb := Lib.countB_le ⟨#[39]⟩ (by decide) _ (str s) (Nat.le_refl _)
 have hra := Tryz.strings_ReplaceAll (str s) ⟨#[39]⟩ ⟨#[39, 39]⟩ m w1 (by rw [str_size]; omega) hmx (by decide) (by
  rw [str_size] at hcb ⊢;have : (⟨#[39, 39]⟩ : ByteArray).size = 2 := rfl
  rw [this]; omega)
 rw [show (str s).data.toList = s from rfl, show (⟨#[39]⟩ : ByteArray).data.toList = [39] from rfl, show (⟨#[39, 39]⟩ : ByteArray).data.toList = [39, 39] from rfl, hrd] at hra;have hra : Calls Tryz.prog 115 #[.string (str s), .string ⟨#[39]⟩, .string ⟨#[39, 39]⟩] w1 fun e w' => e = .returned (.string (str D)) ∧ Below w1.heap.size w1 w' := hra
 have a1 : ∀ w, (Op.stringOp .add ⟨#[39]⟩ (str D)).run Tryz.prog w = .ok (.string (str (39 :: D))) w := fun w => add_strs [39] D (by simp) (by omega) w
 have a2 : ∀ w, (Op.stringOp .add (str (39 :: D)) ⟨#[39]⟩).run Tryz.prog w = .ok (.string (str (39 :: (D ++ [39])))) w := fun w => add_strs (39 :: D) [39] (by simp; omega) (by simp) w
 clear hS hrow hsm hE hEw hcb hmx hs hdl hrd;go_wp2_with (go_at_call 115; refine stopAt ?_);unfold Hid;refine hra.mono ?_;rintro e w2 ⟨rfl, hbl⟩;have hs2 : Same (fun _ => True) w1 w2 := (Same.ofBelow hbl).mono fun i hi _ => hi
 have HS2 := LH (HS.out.trans hs2);clear hs2 hra hbl;go_wp2;go_ret;exact ⟨rfl, HS2.out⟩
theorem show_any (v : Val) (w : World) (hn : I64 v.n) (hE : EnvT w) : Calls Tryz.prog 91 #[valV v] w (ShowP v w) := by
 by_cases hm : v.May
 ·obtain ⟨k, n, s⟩ := v;rcases id hm with ⟨h1, h2, h3⟩ | ⟨h1, h2, h3⟩ | ⟨h1, h3⟩ | ⟨h1, h2, h3⟩
  ·dsimp only at h1 h2 h3; subst h1 h2 h3; exact show_null w
  ·dsimp only at h1 h2 h3; subst h1 h3;rcases h2 with h2 | h2
   ·subst h2; exact show_false w
   ·subst h2; exact show_true w
  ·dsimp only at h1 h3; subst h1 h3; exact show_int n w hn hE
  ·dsimp only at h1 h2 h3; subst h1 h2; exact show_text s w h3 hE
 ·exact show_no v w hm
set_option maxRecDepth 100000 in
set_option maxHeartbeats 1000000 in
theorem refshow_no (v : Val) (w : World) (hm : ¬ v.May) : Calls Tryz.prog 98 #[valV v] w (ShowP v w) := by
 have hmv : mayV v = false := by rw [Bool.eq_false_iff]; intro h; exact hm ((mayV_iff v).1 h)
 have hsh : showL v = [] := by unfold showL; rw [if_neg hm]
 unfold ShowP;rw [hsh];clear hsh hm;have hMay := fun W => refMay_any v W
 unfold BoolP at hMay;rw [hmv] at hMay;clear hmv;go_enter Tryz.func98, Tryz.ntmps98;go_wp2_with (go_at_call 123; refine stopAt ?_);unfold Hid;refine (hMay _).mono ?_;rintro e w1 ⟨rfl, hS⟩;have hrow := (Row.new w 31 (valCs v)).keep hS tv;obtain ⟨c0, c1, c2, -, -, -⟩ := val_cells hrow;have hlb := hrow.lt;have hsm := ((Same.refl (fun _ => True) w).alloc (.cells (valCs v).toArray 31)).trans hS;have HS := LH hsm
 try dsimp only at c0 c1 c2
 clear hS hrow hsm;go_wp2;go_ret;exact ⟨rfl, HS.out⟩
set_option maxRecDepth 100000 in
set_option maxHeartbeats 1000000 in
theorem refshow_null (w : World) : Calls Tryz.prog 98 #[valV ⟨0, 0, []⟩] w (ShowP ⟨0, 0, []⟩ w) := by
 have hmv : mayV ⟨0, 0, []⟩ = true := by decide
 have hsh : showL ⟨0, 0, []⟩ = [78, 85, 76, 76] := by unfold showL; rw [if_pos (by decide)]; rfl
 unfold ShowP;rw [hsh];clear hsh;have hMay := fun W => refMay_any ⟨0, 0, []⟩ W
 unfold BoolP at hMay;rw [hmv] at hMay;clear hmv;go_enter Tryz.func98, Tryz.ntmps98;go_wp2_with (go_at_call 123; refine stopAt ?_);unfold Hid;refine (hMay _).mono ?_;rintro e w1 ⟨rfl, hS⟩;have hrow := (Row.new w 31 (valCs ⟨0, 0, []⟩)).keep hS tv;obtain ⟨c0, c1, c2, -, -, -⟩ := val_cells hrow;have hlb := hrow.lt;have hsm := ((Same.refl (fun _ => True) w).alloc (.cells (valCs ⟨0, 0, []⟩).toArray 31)).trans hS;have HS := LH hsm
 try dsimp only at c0 c1 c2
 clear hS hrow hsm;go_wp2;go_ret;exact ⟨rfl, HS.out⟩
set_option maxRecDepth 100000 in
set_option maxHeartbeats 1000000 in
theorem refshow_true (w : World) : Calls Tryz.prog 98 #[valV ⟨1, 1, []⟩] w (ShowP ⟨1, 1, []⟩ w) := by
 have hmv : mayV ⟨1, 1, []⟩ = true := by decide
 have hsh : showL ⟨1, 1, []⟩ = [84, 82, 85, 69] := by unfold showL; rw [if_pos (by decide)]; rfl
 unfold ShowP;rw [hsh];clear hsh;have hMay := fun W => refMay_any ⟨1, 1, []⟩ W
 unfold BoolP at hMay;rw [hmv] at hMay;clear hmv;go_enter Tryz.func98, Tryz.ntmps98;go_wp2_with (go_at_call 123; refine stopAt ?_);unfold Hid;refine (hMay _).mono ?_;rintro e w1 ⟨rfl, hS⟩;have hrow := (Row.new w 31 (valCs ⟨1, 1, []⟩)).keep hS tv;obtain ⟨c0, c1, c2, -, -, -⟩ := val_cells hrow;have hlb := hrow.lt;have hsm := ((Same.refl (fun _ => True) w).alloc (.cells (valCs ⟨1, 1, []⟩).toArray 31)).trans hS;have HS := LH hsm
 try dsimp only at c0 c1 c2
 clear hS hrow hsm;go_wp2;go_ret;exact ⟨rfl, HS.out⟩
set_option maxRecDepth 100000 in
set_option maxHeartbeats 1000000 in
theorem refshow_false (w : World) : Calls Tryz.prog 98 #[valV ⟨1, 0, []⟩] w (ShowP ⟨1, 0, []⟩ w) := by
 have hmv : mayV ⟨1, 0, []⟩ = true := by decide
 have hsh : showL ⟨1, 0, []⟩ = [70, 65, 76, 83, 69] := by unfold showL; rw [if_pos (by decide)]; rfl
 unfold ShowP;rw [hsh];clear hsh;have hMay := fun W => refMay_any ⟨1, 0, []⟩ W
 unfold BoolP at hMay;rw [hmv] at hMay;clear hmv;go_enter Tryz.func98, Tryz.ntmps98;go_wp2_with (go_at_call 123; refine stopAt ?_);unfold Hid;refine (hMay _).mono ?_;rintro e w1 ⟨rfl, hS⟩;have hrow := (Row.new w 31 (valCs ⟨1, 0, []⟩)).keep hS tv;obtain ⟨c0, c1, c2, -, -, -⟩ := val_cells hrow;have hlb := hrow.lt;have hsm := ((Same.refl (fun _ => True) w).alloc (.cells (valCs ⟨1, 0, []⟩).toArray 31)).trans hS;have HS := LH hsm
 try dsimp only at c0 c1 c2
 clear hS hrow hsm;go_wp2;go_ret;exact ⟨rfl, HS.out⟩
set_option maxRecDepth 100000 in
set_option maxHeartbeats 1000000 in
theorem refshow_int (n : Int) (w : World) (hn : I64 n) : Calls Tryz.prog 98 #[valV ⟨2, n, []⟩] w (ShowP ⟨2, n, []⟩ w) := by
 have hmv : mayV ⟨2, n, []⟩ = true := by unfold mayV; simp
 have hsh : showL ⟨2, n, []⟩ = intL n := by unfold showL Val.May; simp
 unfold ShowP;rw [hsh];clear hsh;have hMay := fun W => refMay_any ⟨2, n, []⟩ W
 unfold BoolP at hMay;rw [hmv] at hMay;clear hmv;go_enter Tryz.func98, Tryz.ntmps98;go_wp2_with (go_at_call 123; refine stopAt ?_);unfold Hid;refine (hMay _).mono ?_;rintro e w1 ⟨rfl, hS⟩;have hrow := (Row.new w 31 (valCs ⟨2, n, []⟩)).keep hS tv;obtain ⟨c0, c1, c2, -, -, -⟩ := val_cells hrow;have hlb := hrow.lt;have hsm := ((Same.refl (fun _ => True) w).alloc (.cells (valCs ⟨2, n, []⟩).toArray 31)).trans hS;have HS := LH hsm
 try dsimp only at c0 c1 c2
 have hdg := refdigits_int n w1 hn;clear hS hrow hsm;go_wp2_with (go_at_call 29; refine hdg.mono ?_; rintro e w2 ⟨rfl, rfl⟩);go_ret;exact ⟨rfl, HS.out⟩
theorem refshow_text' (s : List UInt8) (w : World) (hs : s.length ≤ 64) : Calls Tryz.prog 98 #[valV ⟨3, 0, s⟩] w (ShowP ⟨3, 0, s⟩ w) := by
 have hsh : showL ⟨3, 0, s⟩ = 39 :: dbl s ++ [39] := by unfold showL Val.May; simp [hs]
 unfold ShowP;rw [hsh];exact refshow_text (str s) w (by rw [str_size]; exact hs)
theorem refshow_any (v : Val) (w : World) (hn : I64 v.n) : Calls Tryz.prog 98 #[valV v] w (ShowP v w) := by
 by_cases hm : v.May
 ·obtain ⟨k, n, s⟩ := v;rcases id hm with ⟨h1, h2, h3⟩ | ⟨h1, h2, h3⟩ | ⟨h1, h3⟩ | ⟨h1, h2, h3⟩
  ·dsimp only at h1 h2 h3; subst h1 h2 h3; exact refshow_null w
  ·dsimp only at h1 h2 h3; subst h1 h3;rcases h2 with h2 | h2
   ·subst h2; exact refshow_false w
   ·subst h2; exact refshow_true w
  ·dsimp only at h1 h3; subst h1 h3; exact refshow_int n w hn
  ·dsimp only at h1 h2 h3; subst h1 h2; exact refshow_text' s w h3
 ·exact refshow_no v w hm
theorem args_two {s : List UInt8} (h : argsN s = 2) : s = wOR ∨ s = wAND ∨ s = [61] ∨ s = [60, 62] ∨ s = [60] ∨ s = [60, 61] ∨ s = [62] ∨ s = [62, 61] ∨ s = [43] ∨ s = [45] ∨ s = [42] ∨ s = [47] ∨ s = [37] := by
 unfold argsN at h;split at h
 ·exact absurd h (by decide)
 ·split at h
  ·assumption
  ·exact absurd h (by decide)
theorem args_one {s : List UInt8} (h : argsN s = 1) : s = wNOT ∨ s = wISNULL ∨ s = wNOTNULL ∨ s = wNEG := by
 unfold argsN at h;split at h
 ·assumption
 ·split at h <;> exact absurd h (by decide)
theorem args_range (s : List UInt8) : argsN s = 1 ∨ argsN s = 2 ∨ argsN s = -1 := by
 unfold argsN;split
 ·exact .inl rfl
 ·split
  ·exact .inr (.inl rfl)
  ·exact .inr (.inr rfl)
theorem args_ne {s t : List UInt8} (h : argsN s = 2) (ht : argsN t = 1) : ¬ s = t := by
 rintro rfl;omega
theorem mayEs_mem : ∀ {l : List Ex} {n : Nat}, mayEs l n = true → ∀ a ∈ l, mayE a n = true
 | [], n, _, a, ha => by simp at ha
 | b :: l, n, h, a, ha => by
  rw [mayEs, Bool.and_eq_true] at h;rcases List.mem_cons.1 ha with rfl | ha
  ·exact h.1
  ·exact mayEs_mem h.2 a ha
theorem sameEs_of {l : List Ex} (h : ∀ a ∈ l, ∀ b, sameE a b = true ↔ a = b) : ∀ l', sameEs l l' = true ↔ l = l' := by
 induction l with
 | nil => intro l'; cases l' <;> simp [sameEs]
 | cons a l ih =>
  intro l';cases l' with
  | nil => simp [sameEs]
  | cons b l' =>
   rw [sameEs, Bool.and_eq_true, h a (by simp) b, ih (fun c hc => h c (by simp [hc])) l'];simp
theorem sameE_iff : ∀ a b : Ex, sameE a b = true ↔ a = b := by
 apply Ex.ind;intro k s v l ih b;obtain ⟨k', s', v', l'⟩ := b;rw [sameE, Bool.and_eq_true, Bool.and_eq_true, Bool.and_eq_true, sameEs_of ih l', decide_eq_true_eq, decide_eq_true_eq, decide_eq_true_eq];constructor
 ·rintro ⟨⟨⟨rfl, rfl⟩, rfl⟩, rfl⟩; rfl
 ·intro h; injection h with h1 h2 h3 h4; exact ⟨⟨⟨h1, h2⟩, h3⟩, h4⟩
theorem sameEs_iff (l l' : List Ex) : sameEs l l' = true ↔ l = l' := sameEs_of (fun a _ b => sameE_iff a b) l'
theorem sameBy_iff {α : Type} {f : α → α → Bool} (h : ∀ a b, f a b = true ↔ a = b) : ∀ l l' : List α, sameBy f l l' = true ↔ l = l'
 | [], [] => by simp [sameBy]
 | [], b :: l' => by simp [sameBy]
 | a :: l, [] => by simp [sameBy]
 | a :: l, b :: l' => by rw [sameBy, Bool.and_eq_true, h, sameBy_iff h l l']; simp
theorem sameI_iff (x y : Itm) : sameI x y = true ↔ x = y := by
 obtain ⟨a, b⟩ := x; obtain ⟨c, d⟩ := y;simp [sameI, sameE_iff]
theorem sameA_iff (x y : Asn) : sameA x y = true ↔ x = y := by
 obtain ⟨a, b⟩ := x; obtain ⟨c, d⟩ := y;simp [sameA, sameE_iff]
theorem sameS_iff (x y : Stm) : sameS x y = true ↔ x = y := by
 obtain ⟨a, b, c, d, e, f, g, h, i, j⟩ := x; obtain ⟨a', b', c', d', e', f', g', h', i', j'⟩ := y;simp only [sameS, Bool.and_eq_true, sameE_iff, sameBy_iff sameI_iff, sameBy_iff sameEs_iff, sameBy_iff sameA_iff, decide_eq_true_eq];constructor
 ·rintro ⟨⟨⟨⟨⟨⟨⟨⟨⟨rfl, rfl⟩, rfl⟩, rfl⟩, rfl⟩, rfl⟩, rfl⟩, rfl⟩, rfl⟩, rfl⟩; rfl
 ·intro h; injection h with h1 h2 h3 h4 h5 h6 h7 h8 h9 h10; exact ⟨⟨⟨⟨⟨⟨⟨⟨⟨h1, h2⟩, h6⟩, h8⟩, h9⟩, h10⟩, h7⟩, h3⟩, h4⟩, h5⟩
theorem sameLot_iff (x y : LotM) : sameLot x y = true ↔ x = y := by
 obtain ⟨a, b, c⟩ := x; obtain ⟨a', b', c'⟩ := y;simp only [sameLot, Bool.and_eq_true, sameBy_iff sameS_iff, decide_eq_true_eq];constructor
 ·rintro ⟨⟨rfl, rfl⟩, rfl⟩; rfl
 ·intro h; injection h with h1 h2 h3; exact ⟨⟨h1, h2⟩, h3⟩
theorem sameLot_refl (x : LotM) : sameLot x x = true := (sameLot_iff x x).2 rfl
/-- What may follow a statement's parts. -/
def Fol (t : Tok) : Prop := t = tW wORDER ∨ t = tW wLIMIT ∨ t = tS [59] ∨ t = tW wAS ∨ t = tE
/-- What may follow a statement. -/
def Fin' (t : Tok) : Prop := t = tS [59] ∨ t = tW wAS ∨ t = tE
theorem Fol.of {p : Tok → Bool} (h : p (tW wORDER) = true ∧ p (tW wLIMIT) = true ∧ p (tS [59]) = true ∧ p (tW wAS) = true ∧ p tE = true) {t : Tok} (ht : Fol t) : p t = true := by
  rcases ht with rfl | rfl | rfl | rfl | rfl
  · exact h.1
  · exact h.2.1
  · exact h.2.2.1
  · exact h.2.2.2.1
  · exact h.2.2.2.2
theorem Fin'.of {p : Tok → Bool} (h : p (tS [59]) = true ∧ p (tW wAS) = true ∧ p tE = true) {t : Tok} (ht : Fin' t) : p t = true := by
  rcases ht with rfl | rfl | rfl
  · exact h.1
  · exact h.2.1
  · exact h.2.2
/-- Letters outside quotes made small, blanks made wide, where f says so; and whether a quote is open behind it. -/
def caseT : (Nat → Bool) → Bool → List UInt8 → List UInt8 × Bool
 | _, q, [] => ([], q)
 | f, q, c :: l =>
  let q' := if c = 39 then !q else q
  let r := caseT (fun i => f (i + 1)) q' l
  ((if (!q' && f 0) = true ∧ 65 ≤ c ∧ c ≤ 90 then c + 32 else c) :: (if (!q' && f 0) = true ∧ c = 32 then [10, 9] else []) ++ r.1, r.2)
/-- The tokens of a text, without their places. -/
def lx (s : List UInt8) : Option (List Tok) := if (lexFrom 0 s).1 = 0 then some ((lexFrom 0 s).2.map (·.2)) else none
def Brk (c : List UInt8) : Prop := c = [] ∨ ∃ x r, c = x :: r ∧ (x = 32 ∨ x = 41 ∨ x = 44 ∨ x = 59)
/-- These tokens stand in it, whatever follows that ends a token. -/
def Lx (s : List UInt8) (ts : List Tok) : Prop := ∀ f, (caseT f false s).2 = false ∧ ∀ c, Brk c → lx ((caseT f false s).1 ++ c) = (lx c).map (ts ++ ·)
theorem map_nil_app (x : Option (List Tok)) : x.map (([] : List Tok) ++ ·) = x := by cases x <;> rfl
section
variable {s s' : List UInt8} {ts ts' : List Tok}
theorem caseT_head {x : UInt8} (hx : x = 32 ∨ x = 41 ∨ x = 44 ∨ x = 59) (f : Nat → Bool) (t : List UInt8) : ∃ t', (caseT f false (x :: t)).1 = x :: t' := by
 have hn : ∀ p : Prop, ¬ (p ∧ 65 ≤ x ∧ x ≤ 90) := by
  rintro p ⟨_, a, _⟩;rcases hx with rfl | rfl | rfl | rfl <;> exact absurd a (by decide)
 simp only [caseT];rw [if_neg (hn _)];exact ⟨_, rfl⟩
theorem Brk.case {c : List UInt8} (h : Brk c) (f : Nat → Bool) (r : List UInt8) (hr : Brk r) : Brk ((caseT f false c).1 ++ r) := by
 rcases h with rfl | ⟨x, t, rfl, hx⟩
 ·exact hr
 ·obtain ⟨t', e⟩ := caseT_head hx f t;exact .inr ⟨x, t' ++ r, by rw [e]; rfl, hx⟩
theorem Lx.nil : Lx [] [] := fun f => ⟨rfl, fun c _ => (map_nil_app _).symm⟩
end
def i64B (n : Int) : Bool := decide (-9223372036854775808 ≤ n) && decide (n ≤ 9223372036854775807)
inductive ExI : Ex → Prop where
 | mk {k : Int} {s : List UInt8} {v : Val} {l : List Ex} (h : i64B v.n = true) (hl : ∀ a ∈ l, ExI a) : ExI (.mk k s v l)
theorem ExI.val {e : Ex} (h : ExI e) : i64B e.v.n = true := by cases h with | mk h _ => exact h
theorem ExI.arg {e : Ex} (h : ExI e) : ∀ a ∈ e.args, ExI a := by cases h with | mk _ h => exact h
theorem ExI.zero : ExI .zero := .mk (by decide) (fun a h => by cases h)
section
variable {s s' : List UInt8} {ts ts' : List Tok}
end
theorem showOp_two {s : List UInt8} {v : Val} (h : argsN s = 2) (a b : List UInt8) : showOp 3 s v [a, b] = 40 :: a ++ 32 :: s ++ 32 :: b ++ [41] := by
 unfold showOp;rw [if_neg (by omega), if_neg (by omega)];dsimp only;rw [if_neg (args_ne h (by decide)), if_neg (args_ne h (by decide)), if_neg (args_ne h (by decide)), if_neg (args_ne h (by decide))]
structure StI (s : Stm) : Prop where
 items : ∀ x ∈ s.items, ExI x.e
 rows : ∀ r ∈ s.rows, ∀ e ∈ r, ExI e
 sets : ∀ x ∈ s.sets, ExI x.e
 cond : ExI s.cond
 limit : i64B s.limit = true
structure LotI (l : LotM) : Prop where
 n : i64B l.n = true
 stmts : ∀ s ∈ l.stmts, StI s
theorem add_str (a b : List UInt8) (h : a.length + b.length ≤ 1000000000000) (w : World) : (Op.stringOp .add (str a) (str b)).run Tryz.prog w = .ok (.string (str (a ++ b))) w := by
 rw [← str_app];exact run_string_add_sum _ _ _ (by rw [str_size, str_size]; omega)
theorem i64_I {n : Int} (h : i64B n = true) : I64 n := by simpa [i64B, I64] using h
theorem showV_len {v : Val} (h : mayV v = true) (hI : i64B v.n = true) : (showL v).length ≤ 200 := by
 unfold showL;rw [if_pos ((mayV_iff v).1 h)];have hI := i64_I hI;split
 ·split <;> simp [wTRUE, wFALSE]
 ·split
  ·unfold intL;unfold I64 at hI;split
   ·have := digL_len 19 v.n.natAbs (by omega) (by omega);simp; omega
   ·have := digL_len 19 v.n.toNat (by omega) (by omega);omega
  ·split
   ·rename_i h3;rcases (mayV_iff v).1 h with ⟨k, _⟩ | ⟨k, _⟩ | ⟨k, _⟩ | ⟨k, _, hs⟩
    ·omega
    ·omega
    ·omega
    ·have := dbl_len v.s;simp; omega
   ·simp [wNULL]
theorem args_len {s : List UInt8} (h : argsN s = 2) : s.length ≤ 3 := by
 rcases args_two h with rfl | rfl | rfl | rfl | rfl | rfl | rfl | rfl | rfl | rfl | rfl | rfl | rfl <;> decide
theorem word_len {s : List UInt8} (h : wordF s = true) : s.length ≤ 16 := by
 simp only [wordF, Bool.and_eq_true, decide_eq_true_eq] at h;exact h.1.1
/-- How long a written expression may be. -/
theorem showE_len : ∀ e : Ex, ∀ d, mayE e d = true → ExI e → (showE e).length + 200 ≤ 200 * 2 ^ d := by
 apply Ex.ind;intro k s v l ih d h hI;rw [mayE] at h;by_cases h0 : d = 0
 ·rw [if_pos h0] at h; cases h
 rw [if_neg h0] at h;obtain ⟨d, rfl⟩ : ∃ d', d = d' + 1 := ⟨d - 1, by omega⟩;have hp : 200 * 2 ^ (d + 1) = 200 * 2 ^ d + 200 * 2 ^ d := by rw [Nat.pow_succ]; omega
 have h1 : 1 ≤ 2 ^ d := Nat.one_le_two_pow;rw [hp];by_cases h1 : k = 1
 ·subst h1;simp only [if_true, Bool.and_eq_true, decide_eq_true_eq] at h;obtain ⟨⟨⟨rfl, h2⟩, h3⟩, h4⟩ := h;have e : showE (.mk 1 [] v l) = showL v := rfl;have := showV_len h3 hI.val;rw [e];omega
 rw [if_neg h1] at h;by_cases h2 : k = 2
 ·subst h2;simp only [if_true, Bool.and_eq_true, decide_eq_true_eq] at h;obtain ⟨⟨rfl, h2⟩, h3⟩ := h;have e : showE (.mk 2 s .zero l) = s := rfl;have := word_len h3;rw [e];omega
 rw [if_neg h2] at h;simp only [Bool.and_eq_true, decide_eq_true_eq] at h;obtain ⟨⟨⟨rfl, rfl⟩, h3⟩, h4⟩ := h;rw [Nat.add_sub_cancel] at h4;have hm := mayEs_mem h4;rcases args_range s with hs | hs | hs
 ·obtain ⟨a, rfl⟩ : ∃ a, l = [a] := by
   match l, h3 with
   | [a], _ => exact ⟨a, rfl⟩
   | [], h3 => simp at h3; omega
   | a :: b :: r, h3 => simp at h3; omega
  have ha := ih a (by simp) d (hm a (by simp)) (hI.arg a (by simp [Ex.args]));rcases args_one hs with rfl | rfl | rfl | rfl
  ·have e1 : showE (.mk 3 wNOT .zero [a]) = [40, 78, 79, 84, 32] ++ showE a ++ [41] := rfl;rw [e1]; simp; omega
  ·have e1 : showE (.mk 3 wISNULL .zero [a]) = 40 :: showE a ++ [32, 73, 83, 32, 78, 85, 76, 76, 41] := rfl;rw [e1]; simp; omega
  ·have e1 : showE (.mk 3 wNOTNULL .zero [a]) = 40 :: showE a ++ [32, 73, 83, 32, 78, 79, 84, 32, 78, 85, 76, 76, 41] := rfl;rw [e1]; simp; omega
  ·have e1 : showE (.mk 3 wNEG .zero [a]) = [40, 45, 32] ++ showE a ++ [41] := rfl;rw [e1]; simp; omega
 ·obtain ⟨a, b, rfl⟩ : ∃ a b, l = [a, b] := by
   match l, h3 with
   | [a, b], _ => exact ⟨a, b, rfl⟩
   | [], h3 => simp at h3; omega
   | [a], h3 => simp at h3; omega
   | a :: b :: c :: r, h3 => simp at h3; omega
  have ha := ih a (by simp) d (hm a (by simp)) (hI.arg a (by simp [Ex.args]));have hb := ih b (by simp) d (hm b (by simp)) (hI.arg b (by simp [Ex.args]));have e1 : showE (.mk 3 s .zero [a, b]) = 40 :: showE a ++ 32 :: s ++ 32 :: showE b ++ [41] := showOp_two hs _ _;have := args_len hs;rw [e1]; simp; omega
 ·rw [hs] at h3; omega
theorem showE_most {e : Ex} {d : Nat} (h : mayE e d = true) (hd : d ≤ 16) (hI : ExI e) : (showE e).length ≤ 13107200 := by
 have := showE_len e d h hI;have h2 : 200 * 2 ^ d ≤ 200 * 2 ^ 16 := Nat.mul_le_mul_left _ (Nat.pow_le_pow_right (by omega) hd);have h3 : 200 * 2 ^ 16 = 13107200 := by decide
 omega
def TextP (s : List UInt8) (w : World) (e : Ending) (w' : World) : Prop := e = .returned (.string (str s)) ∧ Same (fun _ => True) w w'
theorem ret_str {a b : List UInt8} (h : a = b) : Ending.returned (.string (str a)) = .returned (.string (str b)) := by rw [h]
set_option maxRecDepth 100000 in
set_option maxHeartbeats 8000000 in
theorem text_any : ∀ (e : Ex) (d : Nat) (u : Value) (w : World), d ≤ 16 → mayE e d = true → ExI e → ExR w (fun _ => True) u e → EnvT w → Calls Tryz.prog 47 #[exV u e] w (TextP (showE e) w) := by
 apply Ex.ind;intro k s v l ih d u w hd h hI hr hE;obtain ⟨A, c, rfl, hc1, hc2⟩ := hr.toL.form;have hl : ExL w (fun _ => True) (.slice A l.length c) l := hr.toL;show Calls Tryz.prog 47 #[.agg #[.int .i64 k, .string (str s), .int .i64 v.kind, .int .i64 v.n, .string (str v.s), .slice A l.length c]] w (TextP (showE (.mk k s v l)) w);obtain ⟨X, hX⟩ : ∃ X, X = showE (.mk k s v l) := ⟨_, rfl⟩;rw [← hX];have HX := LH hX;have hA := (Same.refl (fun _ => True) w).alloc (.cells #[.int .i64 k, .string (str s), .int .i64 v.kind, .int .i64 v.n, .string (str v.s), .slice A l.length c] 34);have hrow := Row.new w 34 [.int .i64 k, .string (str s), .int .i64 v.kind, .int .i64 v.n, .string (str v.s), .slice A l.length c];have hl1 := hl.keepAll hA;have hE1 := hE.keepAll hA;clear hX hr hE hl;rw [mayE] at h;by_cases h0 : d = 0
 ·rw [if_pos h0] at h; cases h
 rw [if_neg h0] at h;go_enter Tryz.func47, Tryz.ntmps47;go_upto_region 1 with (fail);revert hA hrow hl1 hE1;generalize w.alloc _ = w1;intro hA hrow hl1 hE1;have HS := LH hA;have HE := LH hE1;have c0 := hrow.cell 0;have c1 := hrow.cell 1;have c2 := hrow.cell 2;have c3 := hrow.cell 3;have c4 := hrow.cell 4;have c5 := hrow.cell 5;simp only [LG] at c0 c1 c2 c3 c4 c5;clear hA hrow hE1;by_cases h1 : k = 1
 ·have e1 : (k == 1) = true := by rw [h1]; rfl
  rw [if_pos h1] at h;simp only [Bool.and_eq_true, decide_eq_true_eq] at h;obtain ⟨⟨⟨-, -⟩, h3⟩, h4⟩ := h;have HB : Hid (showL v = X) := LH (by rw [HX.out, h1]; rfl);have hsh := show_any v w1 (i64_I hI.val) HE.out;clear h1 h3 h4 hl1;go_wp2_with (go_at_call 91; refine stopAt ?_);unfold Hid;refine hsh.mono ?_;rintro e w2 ⟨rfl, hS⟩;have HS := LH (HS.out.trans hS);clear hS hsh;go_wp2;go_ret;exact ⟨ret_str HB.out, HS.out⟩
 have e1 : (k == 1) = false := by simpa using h1
 rw [if_neg h1] at h;by_cases h2 : k = 2
 ·have e2 : (k == 2) = true := by rw [h2]; rfl
  have HB : Hid (s = X) := LH (by rw [HX.out, h2]; rfl);clear h1 h2 hl1 h;go_wp2;go_ret;exact ⟨ret_str HB.out, HS.out⟩
 have e2 : (k == 2) = false := by simpa using h2
 rw [if_neg h2] at h;simp only [Bool.and_eq_true, decide_eq_true_eq] at h;obtain ⟨⟨⟨h3, rfl⟩, h4⟩, h5⟩ := h;have hm := mayEs_mem h5;have HK := LH h3;clear h1 h2 h3 h5;rcases args_range s with hs | hs | hs
 ·obtain ⟨a, rfl⟩ : ∃ a, l = [a] := by
   match l, h4 with
   | [a], _ => exact ⟨a, rfl⟩
   | [], h3 => simp at h3; omega
   | a :: b :: r, h3 => simp at h3; omega
  have ha := hm a (by simp);have hIa := hI.arg a (by simp [Ex.args]);have hlen := showE_most ha (by omega) hIa;obtain ⟨ad, ua, rfl, -, hla, d0, d1, d2, d3, d4, d5⟩ := ExL.cells (i := 0) hl1 (by simp);obtain ⟨Aa, ca, rfl, -, -⟩ := hla.form;simp only [List.getElem_cons_zero, Nat.zero_mul, add_zero] at d0 d1 d2 d3 d4 d5 hla;have hia := ih a (by simp) (d - 1) (.slice Aa a.args.length ca) w1 (by omega) ha hIa ((ExR.iff _ _).2 hla) HE.out;have HX1 : Hid (X = showE (.mk 3 s .zero [a])) := LH (by rw [HX.out, HK.out]);obtain ⟨D, hD⟩ : ∃ D, D = showE a := ⟨_, rfl⟩;rw [← hD] at hia hlen;have HD := LH hD;have z0 : (0 : Int) < ((1 : Nat) : Int) := by omega
  clear hm hI h4 hl1 hla ha hIa hD;change w1.cell? ⟨w.heap.size, 5, none⟩ = some (.slice (some ad) 1 c) at c5;rcases args_one hs with rfl | rfl | rfl | rfl
  ·have HB : Hid ([40, 78, 79, 84, 32] ++ D ++ [41] = X) := LH (by rw [HX1.out, HD.out]; rfl);have a1 : ∀ w, (Op.stringOp .add ⟨#[40, 78, 79, 84, 32]⟩ (str D)).run Tryz.prog w = .ok (.string (str ([40, 78, 79, 84, 32] ++ D))) w := fun w => add_str [40, 78, 79, 84, 32] D (by simp; omega) w
   have a2 : ∀ w, (Op.stringOp .add (str ([40, 78, 79, 84, 32] ++ D)) ⟨#[41]⟩).run Tryz.prog w = .ok (.string (str ([40, 78, 79, 84, 32] ++ D ++ [41]))) w := fun w => add_str ([40, 78, 79, 84, 32] ++ D) [41] (by simp; omega) w
   simp only [wNOT] at c1;generalize hY : [40, 78, 79, 84, 32] ++ D = Y at a1 a2 HB;clear hY hs hlen;go_wp2_with (go_at_call 47; refine stopAt ?_);unfold Hid;refine hia.mono ?_;rintro e w2 ⟨rfl, hS⟩;have HS := LH (HS.out.trans hS);clear hS hia;go_wp2;go_ret;exact ⟨ret_str HB.out, HS.out⟩
  ·have HB : Hid ([40] ++ D ++ [32, 73, 83, 32, 78, 85, 76, 76, 41] = X) := LH (by rw [HX1.out, HD.out]; rfl);have a1 : ∀ w, (Op.stringOp .add ⟨#[40]⟩ (str D)).run Tryz.prog w = .ok (.string (str ([40] ++ D))) w := fun w => add_str [40] D (by simp; omega) w
   have a2 : ∀ w, (Op.stringOp .add (str ([40] ++ D)) ⟨#[32, 73, 83, 32, 78, 85, 76, 76, 41]⟩).run Tryz.prog w = .ok (.string (str ([40] ++ D ++ [32, 73, 83, 32, 78, 85, 76, 76, 41]))) w := fun w => add_str ([40] ++ D) [32, 73, 83, 32, 78, 85, 76, 76, 41] (by simp; omega) w
   simp only [wISNULL] at c1;generalize hY : [40] ++ D = Y at a1 a2 HB;clear hY hs hlen;go_wp2_with (go_at_call 47; refine stopAt ?_);unfold Hid;refine hia.mono ?_;rintro e w2 ⟨rfl, hS⟩;have HS := LH (HS.out.trans hS);clear hS hia;go_wp2;go_ret;exact ⟨ret_str HB.out, HS.out⟩
  ·have HB : Hid ([40] ++ D ++ [32, 73, 83, 32, 78, 79, 84, 32, 78, 85, 76, 76, 41] = X) := LH (by rw [HX1.out, HD.out]; rfl);have a1 : ∀ w, (Op.stringOp .add ⟨#[40]⟩ (str D)).run Tryz.prog w = .ok (.string (str ([40] ++ D))) w := fun w => add_str [40] D (by simp; omega) w
   have a2 : ∀ w, (Op.stringOp .add (str ([40] ++ D)) ⟨#[32, 73, 83, 32, 78, 79, 84, 32, 78, 85, 76, 76, 41]⟩).run Tryz.prog w = .ok (.string (str ([40] ++ D ++ [32, 73, 83, 32, 78, 79, 84, 32, 78, 85, 76, 76, 41]))) w := fun w => add_str ([40] ++ D) [32, 73, 83, 32, 78, 79, 84, 32, 78, 85, 76, 76, 41] (by simp; omega) w
   simp only [wNOTNULL] at c1;generalize hY : [40] ++ D = Y at a1 a2 HB;clear hY hs hlen;go_wp2_with (go_at_call 47; refine stopAt ?_);unfold Hid;refine hia.mono ?_;rintro e w2 ⟨rfl, hS⟩;have HS := LH (HS.out.trans hS);clear hS hia;go_wp2;go_ret;exact ⟨ret_str HB.out, HS.out⟩
  ·have HB : Hid ([40, 45, 32] ++ D ++ [41] = X) := LH (by rw [HX1.out, HD.out]; rfl);have a1 : ∀ w, (Op.stringOp .add ⟨#[40, 45, 32]⟩ (str D)).run Tryz.prog w = .ok (.string (str ([40, 45, 32] ++ D))) w := fun w => add_str [40, 45, 32] D (by simp; omega) w
   have a2 : ∀ w, (Op.stringOp .add (str ([40, 45, 32] ++ D)) ⟨#[41]⟩).run Tryz.prog w = .ok (.string (str ([40, 45, 32] ++ D ++ [41]))) w := fun w => add_str ([40, 45, 32] ++ D) [41] (by simp; omega) w
   simp only [wNEG] at c1;generalize hY : [40, 45, 32] ++ D = Y at a1 a2 HB;clear hY hs hlen;go_wp2_with (go_at_call 47; refine stopAt ?_);unfold Hid;refine hia.mono ?_;rintro e w2 ⟨rfl, hS⟩;have HS := LH (HS.out.trans hS);clear hS hia;go_wp2;go_ret;exact ⟨ret_str HB.out, HS.out⟩
 ·obtain ⟨a, b, rfl⟩ : ∃ a b, l = [a, b] := by
   match l, h4 with
   | [a, b], _ => exact ⟨a, b, rfl⟩
   | [], h3 => simp at h3; omega
   | [a], h3 => simp at h3; omega
   | a :: b :: c :: r, h3 => simp at h3; omega
  have ha := hm a (by simp);have hb := hm b (by simp);have hIa := hI.arg a (by simp [Ex.args]);have hIb := hI.arg b (by simp [Ex.args]);have hlen := showE_most ha (by omega) hIa;have hlen2 := showE_most hb (by omega) hIb;have hlen3 := args_len hs;obtain ⟨ad, ua, hA1, -, hla, d0, d1, d2, d3, d4, d5⟩ := ExL.cells (i := 0) hl1 (by simp);obtain ⟨ad', ub, hA2, -, hlb, g0, g1, g2, g3, g4, g5⟩ := ExL.cells (i := 1) hl1 (by simp);subst hA1;injection hA2 with hA2;subst hA2;obtain ⟨Aa, ca, rfl, -, -⟩ := hla.form;obtain ⟨Ab, cb, rfl, -, -⟩ := hlb.form;simp only [List.getElem_cons_zero, List.getElem_cons_succ, Nat.zero_mul, Nat.one_mul, add_zero] at d0 d1 d2 d3 d4 d5 g0 g1 g2 g3 g4 g5 hla hlb;rw [show ad.add 6 = ⟨ad.block, ad.off + 6, none⟩ from addr_add _ _ (by omega)] at g0 g1 g2 g3 g4 g5;dsimp only at g0 g1 g2 g3 g4 g5;have gA : ∀ W, Same (fun _ => True) w1 W → Calls Tryz.prog 47 #[exV (.slice Aa a.args.length ca) a] W (TextP (showE a) W) := fun W hs => ih a (by simp) (d - 1) (.slice Aa a.args.length ca) W (by omega) ha hIa ((ExR.iff _ _).2 (hla.keepAll hs)) (HE.out.keepAll hs)
  have gB : ∀ W, Same (fun _ => True) w1 W → Calls Tryz.prog 47 #[exV (.slice Ab b.args.length cb) b] W (TextP (showE b) W) := fun W hs => ih b (by simp) (d - 1) (.slice Ab b.args.length cb) W (by omega) hb hIb ((ExR.iff _ _).2 (hlb.keepAll hs)) (HE.out.keepAll hs)
  have HX1 : Hid (X = 40 :: showE a ++ 32 :: s ++ 32 :: showE b ++ [41]) := LH (by rw [HX.out, HK.out]; exact showOp_two hs _ _);have n1 := str_no (args_ne hs (show argsN wISNULL = 1 from by decide));have n2 := str_no (args_ne hs (show argsN wNOTNULL = 1 from by decide));have n3 := str_no (args_ne hs (show argsN wNOT = 1 from by decide));have n4 := str_no (args_ne hs (show argsN wNEG = 1 from by decide));have m1 := args_ne hs (show argsN wISNULL = 1 from by decide);have m2 := args_ne hs (show argsN wNOTNULL = 1 from by decide);have m3 := args_ne hs (show argsN wNOT = 1 from by decide);have m4 := args_ne hs (show argsN wNEG = 1 from by decide);simp only [wISNULL, wNOTNULL, wNOT, wNEG] at n1 n2 n3 n4 m1 m2 m3 m4;obtain ⟨DA, hDA⟩ : ∃ D, D = showE a := ⟨_, rfl⟩;obtain ⟨DB, hDB⟩ : ∃ D, D = showE b := ⟨_, rfl⟩;rw [← hDA] at gA hlen;rw [← hDB] at gB hlen2;have HD := LH hDA;have HD2 := LH hDB;have z0 : (0 : Int) < ((2 : Nat) : Int) := by omega
  have z1 : (1 : Int) < ((2 : Nat) : Int) := by omega
  clear hm hI h4 hl1 hla hlb ha hb hIa hIb hDA hDB;change w1.cell? ⟨w.heap.size, 5, none⟩ = some (.slice (some ad) 2 c) at c5;obtain ⟨Y1, hY1⟩ : ∃ Y, Y = [40] ++ DA := ⟨_, rfl⟩;obtain ⟨Y2, hY2⟩ : ∃ Y, Y = Y1 ++ [32] := ⟨_, rfl⟩;obtain ⟨Y3, hY3⟩ : ∃ Y, Y = Y2 ++ s := ⟨_, rfl⟩;obtain ⟨Y4, hY4⟩ : ∃ Y, Y = Y3 ++ [32] := ⟨_, rfl⟩;obtain ⟨Y5, hY5⟩ : ∃ Y, Y = Y4 ++ DB := ⟨_, rfl⟩;obtain ⟨Y6, hY6⟩ : ∃ Y, Y = Y5 ++ [41] := ⟨_, rfl⟩;have l1 : Y1.length = DA.length + 1 := by rw [hY1, List.length_append, List.length_singleton]; omega
  have l2 : Y2.length = Y1.length + 1 := by rw [hY2]; simp
  have l3 : Y3.length = Y2.length + s.length := by rw [hY3]; simp
  have l4 : Y4.length = Y3.length + 1 := by rw [hY4]; simp
  have l5 : Y5.length = Y4.length + DB.length := by rw [hY5]; simp
  have a1 : ∀ w, (Op.stringOp .add ⟨#[40]⟩ (str DA)).run Tryz.prog w = .ok (.string (str Y1)) w := fun w => hY1 ▸ add_str [40] DA (by simp; omega) w
  have a2 : ∀ w, (Op.stringOp .add (str Y1) ⟨#[32]⟩).run Tryz.prog w = .ok (.string (str Y2)) w := fun w => hY2 ▸ add_str Y1 [32] (by simp; omega) w
  have a3 : ∀ w, (Op.stringOp .add (str Y2) (str s)).run Tryz.prog w = .ok (.string (str Y3)) w := fun w => hY3 ▸ add_str Y2 s (by omega) w
  have a4 : ∀ w, (Op.stringOp .add (str Y3) ⟨#[32]⟩).run Tryz.prog w = .ok (.string (str Y4)) w := fun w => hY4 ▸ add_str Y3 [32] (by simp; omega) w
  have a5 : ∀ w, (Op.stringOp .add (str Y4) (str DB)).run Tryz.prog w = .ok (.string (str Y5)) w := fun w => hY5 ▸ add_str Y4 DB (by omega) w
  have a6 : ∀ w, (Op.stringOp .add (str Y5) ⟨#[41]⟩).run Tryz.prog w = .ok (.string (str Y6)) w := fun w => hY6 ▸ add_str Y5 [41] (by simp; omega) w
  have HB : Hid (Y6 = X) := LH (by rw [HX1.out, hY6, hY5, hY4, hY3, hY2, hY1, HD.out, HD2.out]; simp);clear l1 l2 l3 l4 l5 hlen hlen2 hlen3 hY1 hY2 hY3 hY4 hY5 hY6 hs;go_upto_region 13 with (fail);refine wp_region_eq_lit (vs := [(.pointer (some ⟨w.heap.size, 5, none⟩)), (.slice (some ad) 2 c), (.pointer (some ad)), (exV (.slice Aa a.args.length ca) a), (.string (str DA)), (.string (str Y1)), (.string (str Y2)), (.pointer (some ⟨w.heap.size, 1, none⟩)), (.string (str s)), (.string (str Y3)), (.string (str Y4)), (.pointer (some ⟨w.heap.size, 5, none⟩)), (.slice (some ad) 2 c), (.pointer (some ⟨ad.block, ad.off + 6, none⟩)), (exV (.slice Ab b.args.length cb) b), (.string (str DB)), (.string (str Y5)), (.string (str Y6)), (.string (str Y6))]) (by kernel_rfl) (by kernel_rfl) rfl rfl ?_ ?_
  ·refine ⟨?_, ?_, ?_, ?_, ?_, ?_, ?_, ?_, ?_, ?_, ?_, ?_, ?_, ?_, ?_, ?_, ?_, ?_, ?_, tv⟩
   all_goals intro ac wc hs hd hz hf hw K hK
   ·have e0 := EP 1 w.heap.size 0 (hf 1 rfl);clear hd hz hf hw;simp only [if_true, RL, e0];go_simp;exact hK _ _ rfl SR
   ·have e0 := EP 60 w.heap.size 5 (hw 0 rfl);have m0 := MC c5 hs tv;clear hd hz hf hw;simp only [if_true, RL, e0];go_simp;exact hK _ _ rfl SR
   ·have e0 := EV 61 (.slice (some ad) 2 c) (hw 1 rfl);clear hd hz hf hw;simp only [if_true, RL, e0];go_simp;exact hK _ _ rfl SR
   ·have e0 := EV 62 (.pointer (some ad)) (hw 2 rfl);have m0 := MC d0 hs tv;have m1 := MC d1 hs tv;have m2 := MC d2 hs tv;have m3 := MC d3 hs tv;have m4 := MC d4 hs tv;have m5 := MC d5 hs tv;clear hd hz hf hw;simp only [if_true, RL, e0];go_simp;exact hK _ _ rfl SR
   ·have e0 := EV 63 (exV (.slice Aa a.args.length ca) a) (hw 3 rfl);clear hd hz hf hw;simp only [if_true, RL, e0];go_simp;refine (gA _ hs).mono ?_;rintro e wd ⟨rfl, hsd⟩;exact hK _ _ rfl hsd
   ·have e0 := EV 64 (.string (str DA)) (hw 4 rfl);clear hd hz hf hw;simp only [if_true, RL, e0];go_simp;exact hK _ _ rfl SR
   ·have e0 := EV 65 (.string (str Y1)) (hw 5 rfl);clear hd hz hf hw;simp only [if_true, RL, e0];go_simp;exact hK _ _ rfl SR
   ·have e0 := EP 1 w.heap.size 0 (hf 1 rfl);clear hd hz hf hw;simp only [if_true, RL, e0];go_simp;exact hK _ _ rfl SR
   ·have e0 := EP 67 w.heap.size 1 (hw 7 rfl);have m0 := MC c1 hs tv;clear hd hz hf hw;simp only [if_true, RL, e0];go_simp;exact hK _ _ rfl SR
   ·have e0 := EV 66 (.string (str Y2)) (hw 6 rfl);have e1 := EV 68 (.string (str s)) (hw 8 rfl);clear hd hz hf hw;simp only [if_true, RL, e0, e1];go_simp;exact hK _ _ rfl SR
   ·have e0 := EV 69 (.string (str Y3)) (hw 9 rfl);clear hd hz hf hw;simp only [if_true, RL, e0];go_simp;exact hK _ _ rfl SR
   ·have e0 := EP 1 w.heap.size 0 (hf 1 rfl);clear hd hz hf hw;simp only [if_true, RL, e0];go_simp;exact hK _ _ rfl SR
   ·have e0 := EP 71 w.heap.size 5 (hw 11 rfl);have m0 := MC c5 hs tv;clear hd hz hf hw;simp only [if_true, RL, e0];go_simp;exact hK _ _ rfl SR
   ·have e0 := EV 72 (.slice (some ad) 2 c) (hw 12 rfl);clear hd hz hf hw;simp only [if_true, RL, e0];go_simp;exact hK _ _ rfl SR
   ·have e0 : ac.eval (.tmp 73) = (.pointer (some ⟨ad.block, ad.off + 6, none⟩)) := hw 13 rfl;have m0 := MC g0 hs tv;have m1 := MC g1 hs tv;have m2 := MC g2 hs tv;have m3 := MC g3 hs tv;have m4 := MC g4 hs tv;have m5 := MC g5 hs tv;clear hd hz hf hw;simp only [if_true, RL, e0];go_simp;exact hK _ _ rfl SR
   ·have e0 := EV 74 (exV (.slice Ab b.args.length cb) b) (hw 14 rfl);clear hd hz hf hw;simp only [if_true, RL, e0];go_simp;refine (gB _ hs).mono ?_;rintro e wd ⟨rfl, hsd⟩;exact hK _ _ rfl hsd
   ·have e0 := EV 70 (.string (str Y4)) (hw 10 rfl);have e1 := EV 75 (.string (str DB)) (hw 15 rfl);clear hd hz hf hw;simp only [if_true, RL, e0, e1];go_simp;exact hK _ _ rfl SR
   ·have e0 := EV 76 (.string (str Y5)) (hw 16 rfl);clear hd hz hf hw;simp only [if_true, RL, e0];go_simp;exact hK _ _ rfl SR
   ·have e0 := EV 77 (.string (str Y6)) (hw 17 rfl);clear hd hz hf hw;simp only [if_true, RL, e0];go_simp;exact hK _ _ rfl SR
  ·intro wR hsR;simp only [putAll, Act.put, LP];have HS := LH (HS.out.trans hsR);clear hsR;go_wp2;go_ret;exact ⟨ret_str HB.out, HS.out⟩
 ·rw [hs] at h4; omega
abbrev sC (s : List UInt8) : List Value := [.string (str s)]
theorem TSs : SlT Tryz.prog 66 9 1 16 (.string ⟨#[]⟩) := ⟨by kernel_rfl, by kernel_rfl, rfl, by omega⟩
theorem joinT_eq (sep : List UInt8) : ∀ l : List (List UInt8), joinT sep l = Lib.join l sep
 | [] => rfl
 | [a] => (Lib.join_one a sep).symm
 | a :: b :: l => by
  rw [Lib.join_cons, joinT, joinT_eq sep (b :: l), Lib.join_cons]
  ·simp [Lib.joinTail]
  ·intro h; cases h
theorem join_len (sep : List UInt8) (M : Nat) : ∀ l : List (List UInt8), (∀ x ∈ l, x.length ≤ M) → (joinT sep l).length ≤ l.length * (M + sep.length)
 | [], _ => by simp [joinT]
 | [a], h => by have := h a (by simp); simp [joinT]; omega
 | a :: b :: l, h => by
  have h1 := h a (by simp);have h2 := join_len sep M (b :: l) fun x hx => h x (by simp at hx ⊢; exact .inr hx)
  have e : (a :: b :: l).length * (M + sep.length) = (b :: l).length * (M + sep.length) + (M + sep.length) := by rw [List.length_cons, Nat.succ_mul]
  rw [e];simp only [joinT, List.length_append];omega
theorem flat_sC : ∀ l : List (List UInt8), l.flatMap sC = l.map fun s => Value.string (str s)
 | [] => rfl
 | a :: l => by rw [List.flatMap_cons, flat_sC l]; rfl
/-- Texts joined out of a row that the call owns. -/
theorem join_any (sep : List UInt8) (L : List (List UInt8)) (v : Value) (B : Nat) (w : World) (h : OwnR sC 1 9 w B v L) (hn : L.length ≤ 1000) (hj : (joinT sep L).length ≤ 100000000000) : Calls Tryz.prog 26 #[v, .string (str sep)] w (TextP (joinT sep L) w) := by
 rcases ownsRow_row h with ⟨rfl, h0, -⟩ | ⟨g, cap, cur, rfl, hb, hr, h1, h2, h3, h4⟩
 ·have h0 : L.length = 0 := h0;obtain rfl := List.eq_nil_of_length_eq_zero h0;refine (Tryz.strings_Join_none none 0 (str sep) w).mono ?_;rintro e w' ⟨rfl, rfl⟩;exact ⟨rfl, Same.refl _ _⟩
 ·have hx : ((L.map str).map (·.data.toList)) = L := by
   rw [List.map_map]
   conv => rhs; rw [← List.map_id L]
   rfl
  have hcells : ∀ (j : Nat) (x : ByteArray), (L.map str)[j]? = some x → w.cell? ⟨g, 0 + j, none⟩ = some (.string x) := by
   intro j x hx;rw [List.getElem?_map] at hx;obtain ⟨y, hy, rfl⟩ := Option.map_eq_some_iff.1 hx;have hj : j < L.length := (List.getElem?_eq_some_iff.1 hy).1;rw [Nat.zero_add, hr.cell]
   have h5 : (cur.take (L.length * 1))[j]? = some (Value.string (str y)) := by
    rw [h4, flat_sC, List.getElem?_map, hy]; rfl
   rw [List.getElem?_take, if_pos (by omega)] at h5;exact h5
  have := Tryz.strings_Join g 0 cap (L.map str) (str sep) w hcells hr.lt (by rw [List.length_map]; omega) (by rw [List.length_map]; exact h1) (by rw [hx, show (str sep).data.toList = sep from rfl, ← joinT_eq]; omega);rw [hx, show (str sep).data.toList = sep from rfl, ← joinT_eq, List.length_map] at this;refine this.mono ?_;rintro e w' ⟨rfl, hS⟩;exact ⟨rfl, (Same.ofBelow hS).mono fun i hi _ => hi⟩
set_option maxRecDepth 100000 in
set_option maxHeartbeats 4000000 in
theorem list_Ex (F : Ex → List UInt8) (M : Nat) (hM : M ≤ 2000000000) (l : List Ex) (v : Value) (w : World) (h : LsR exCsP 6 ExR w (fun _ => True) v l) (hE : EnvT w) (hn : l.length ≤ 16) (hF : ∀ x ∈ l, (F x).length ≤ M)
  (hcall : ∀ (i : Nat) (hi : i < l.length) (u : Value) (W : World), ExR W (fun _ => True) u l[i] → EnvT W → Calls Tryz.prog 47 #[exV u l[i]] W (TextP (F l[i]) W)) :
  Calls Tryz.prog 46 #[v, .func (.func 47) #[] #[]] w (TextP (joinT [44, 32] (l.map F)) w) := by
 obtain ⟨A, c, rfl, hc1, hc2⟩ := h.form;unfold maxLen at hc2
 have hj : (joinT [44, 32] (l.map F)).length ≤ 100000000000 := by
  have h1 := join_len [44, 32] M (l.map F) fun x hx => by
   obtain ⟨y, hy, rfl⟩ := List.mem_map.1 hx;exact hF y hy
  rw [List.length_map] at h1;have h2 : l.length * (M + [44, 32].length) ≤ 16 * (2000000000 + 2) := Nat.mul_le_mul hn (by simp only [List.length_cons, List.length_nil]; omega);omega
 have HL := LH h;have HE := LH hE;have HC := LH hcall;have HJ := LH hj;have HN := LH hn;clear h hE hcall hj hn hF hM;go_enter Tryz.func46, Tryz.ntmps46;go_wp2;go_loopw [5, 10] (fun v i wr => ∃ q : Nat, i = .int .i64 (q : Int) ∧ q ≤ l.length ∧ OwnR sC 1 9 wr w.heap.size v ((l.take q).map F) ∧ Same (fun _ => True) w wr) (fun _ i _ => l.length - (intOf i).toNat)
 case atStart => exact ⟨0, rfl, Nat.zero_le _, OwnR.nil _ _, Same.refl _ _⟩
 case round =>
  obtain ⟨q, rfl, hq, hov, hS⟩ := hrel;obtain ⟨Av, cv, rfl, hv1, hv2⟩ := hov.form;have hln : ((l.take q).map F).length = q := by rw [List.length_map, List.length_take]; omega
  rw [hln] at hov hv1 ⊢;unfold maxLen at hv2;have x1 : (0 : Int) ≤ (q : Int) := by omega
  have HS := LH hS;have HE2 := LH (HE.out.keepAll hS);have HOV := LH hov;clear hov;by_cases hql : q < l.length
  ·have x2 : (q : Int) < (l.length : Int) := by omega
   obtain ⟨ad, u, rfl, hok, hcl⟩ := LsR.at_ (HL.out.keepAll exK hS) exCsP_len hql;obtain ⟨A_u, c_u, rfl, -, -⟩ := (show ExR _ _ u l[q] from hok).toL.form;have d0 := hcl 0 (by omega);rw [add_zero] at d0;have d1 := hcl 1 (by omega);rw [addr_add _ _ (by omega)] at d1;have d2 := hcl 2 (by omega);rw [addr_add _ _ (by omega)] at d2;have d3 := hcl 3 (by omega);rw [addr_add _ _ (by omega)] at d3;have d4 := hcl 4 (by omega);rw [addr_add _ _ (by omega)] at d4;have d5 := hcl 5 (by omega);rw [addr_add _ _ (by omega)] at d5;simp only [exCsP, exCs, LG] at d0 d1 d2 d3 d4 d5;have HOK := LH hok;clear hok hS hcl;go_wp2_with (go_at_call 47; refine stopAt ?_);unfold Hid;refine (HC.out q hql _ _ (exK.keep HOK.out ((Same.refl (fun _ => True) wr).alloc _)) (HE2.out.keepAll ((Same.refl (fun _ => True) wr).alloc _))).mono ?_;rintro e w5 ⟨rfl, hS⟩;have HS5 := LH ((HS.out.trans ((Same.refl (fun _ => True) wr).alloc _)).trans hS);have HOV5 := LH (HOV.out.keepAll (((Same.refl (fun _ => True) wr).alloc _).trans hS));clear hS;go_wp2_with (at_builtin; refine stopAt ?_);unfold Hid;refine wpList_appR1 TSs (fun _ => rfl) (fun x u hu => by simp only [sC, List.mem_cons, List.not_mem_nil, or_false] at hu; rw [hu]; rfl) rfl (.tmp 14) (.tmp 18) rfl (f := sC) (B := w.heap.size) (v := .slice Av q cv) (l := (l.take q).map F) (c := F l[q]) rfl rfl rfl HOV5.out HS5.out.size (by rw [hln]; simp only [maxLen]; omega) (by rw [hln]; have := HN.out; omega) ?_;intro v' w6 hO hS6
   have hO : OwnR sC 1 9 w6 w.heap.size v' ((l.take (q + 1)).map F) := by
    rw [List.take_add_one, List.getElem?_eq_getElem hql, List.map_append];exact hO
   obtain ⟨A9, c9, rfl, -, -⟩ := hO.form;have hln9 : ((l.take (q + 1)).map F).length = q + 1 := by rw [List.length_map, List.length_take]; omega
   rw [hln9] at hO ⊢;have HO9 := LH hO;have HS9 := LH (HS5.out.trans' hS6 fun i hi _ => hi);clear hO hS6 hln9;go_wp2;go_roundw
   case rel => exact ⟨q + 1, by go_num, by omega, HO9.out, HS9.out⟩
   case measure => simp [intOf]; omega
  ·obtain rfl : q = l.length := by omega
   have HOV : Hid (OwnR sC 1 9 wr w.heap.size (.slice Av l.length cv) (l.map F)) := LH (by have := HOV.out; rw [List.take_length] at this; exact this);clear hS hln;go_wp2_with (go_at_call 26; refine stopAt ?_);unfold Hid;refine (join_any [44, 32] (l.map F) _ w.heap.size wr HOV.out (by have := HN.out; rw [List.length_map]; omega) HJ.out).mono ?_;rintro e w5 ⟨rfl, hS⟩;have HS5 := LH (HS.out.trans hS);clear hS;go_wp2;go_ret;exact ⟨rfl, HS5.out⟩
set_option maxRecDepth 100000 in
set_option maxHeartbeats 4000000 in
theorem list_It (F : Itm → List UInt8) (M : Nat) (hM : M ≤ 2000000000) (l : List Itm) (v : Value) (w : World) (h : LsR itCs 7 itOk w (fun _ => True) v l) (hE : EnvT w) (hn : l.length ≤ 16) (hF : ∀ x ∈ l, (F x).length ≤ M)
  (hcall : ∀ (i : Nat) (hi : i < l.length) (u : Value) (W : World), itOk W (fun _ => True) u l[i] → EnvT W → Calls Tryz.prog 43 #[itV u l[i]] W (TextP (F l[i]) W)) :
  Calls Tryz.prog 42 #[v, .func (.func 43) #[] #[]] w (TextP (joinT [44, 32] (l.map F)) w) := by
 obtain ⟨A, c, rfl, hc1, hc2⟩ := h.form;unfold maxLen at hc2
 have hj : (joinT [44, 32] (l.map F)).length ≤ 100000000000 := by
  have h1 := join_len [44, 32] M (l.map F) fun x hx => by
   obtain ⟨y, hy, rfl⟩ := List.mem_map.1 hx;exact hF y hy
  rw [List.length_map] at h1;have h2 : l.length * (M + [44, 32].length) ≤ 16 * (2000000000 + 2) := Nat.mul_le_mul hn (by simp only [List.length_cons, List.length_nil]; omega);omega
 have HL := LH h;have HE := LH hE;have HC := LH hcall;have HJ := LH hj;have HN := LH hn;clear h hE hcall hj hn hF hM;go_enter Tryz.func42, Tryz.ntmps42;go_wp2;go_loopw [5, 10] (fun v i wr => ∃ q : Nat, i = .int .i64 (q : Int) ∧ q ≤ l.length ∧ OwnR sC 1 9 wr w.heap.size v ((l.take q).map F) ∧ Same (fun _ => True) w wr) (fun _ i _ => l.length - (intOf i).toNat)
 case atStart => exact ⟨0, rfl, Nat.zero_le _, OwnR.nil _ _, Same.refl _ _⟩
 case round =>
  obtain ⟨q, rfl, hq, hov, hS⟩ := hrel;obtain ⟨Av, cv, rfl, hv1, hv2⟩ := hov.form;have hln : ((l.take q).map F).length = q := by rw [List.length_map, List.length_take]; omega
  rw [hln] at hov hv1 ⊢;unfold maxLen at hv2;have x1 : (0 : Int) ≤ (q : Int) := by omega
  have HS := LH hS;have HE2 := LH (HE.out.keepAll hS);have HOV := LH hov;clear hov;by_cases hql : q < l.length
  ·have x2 : (q : Int) < (l.length : Int) := by omega
   obtain ⟨ad, u, rfl, hok, hcl⟩ := LsR.at_ (HL.out.keepAll itK hS) itCs_len hql;obtain ⟨A_u, c_u, rfl, -, -⟩ := (show ExR _ _ u l[q].e from hok).toL.form;have d0 := hcl 0 (by omega);rw [add_zero] at d0;have d1 := hcl 1 (by omega);rw [addr_add _ _ (by omega)] at d1;have d2 := hcl 2 (by omega);rw [addr_add _ _ (by omega)] at d2;have d3 := hcl 3 (by omega);rw [addr_add _ _ (by omega)] at d3;have d4 := hcl 4 (by omega);rw [addr_add _ _ (by omega)] at d4;have d5 := hcl 5 (by omega);rw [addr_add _ _ (by omega)] at d5;have d6 := hcl 6 (by omega);rw [addr_add _ _ (by omega)] at d6;simp only [itCs, exCs, LG] at d0 d1 d2 d3 d4 d5 d6;have HOK := LH hok;clear hok hS hcl;go_wp2_with (go_at_call 43; refine stopAt ?_);unfold Hid;refine (HC.out q hql _ _ (itK.keep HOK.out ((Same.refl (fun _ => True) wr).alloc _)) (HE2.out.keepAll ((Same.refl (fun _ => True) wr).alloc _))).mono ?_;rintro e w5 ⟨rfl, hS⟩;have HS5 := LH ((HS.out.trans ((Same.refl (fun _ => True) wr).alloc _)).trans hS);have HOV5 := LH (HOV.out.keepAll (((Same.refl (fun _ => True) wr).alloc _).trans hS));clear hS;go_wp2_with (at_builtin; refine stopAt ?_);unfold Hid;refine wpList_appR1 TSs (fun _ => rfl) (fun x u hu => by simp only [sC, List.mem_cons, List.not_mem_nil, or_false] at hu; rw [hu]; rfl) rfl (.tmp 14) (.tmp 18) rfl (f := sC) (B := w.heap.size) (v := .slice Av q cv) (l := (l.take q).map F) (c := F l[q]) rfl rfl rfl HOV5.out HS5.out.size (by rw [hln]; simp only [maxLen]; omega) (by rw [hln]; have := HN.out; omega) ?_;intro v' w6 hO hS6
   have hO : OwnR sC 1 9 w6 w.heap.size v' ((l.take (q + 1)).map F) := by
    rw [List.take_add_one, List.getElem?_eq_getElem hql, List.map_append];exact hO
   obtain ⟨A9, c9, rfl, -, -⟩ := hO.form;have hln9 : ((l.take (q + 1)).map F).length = q + 1 := by rw [List.length_map, List.length_take]; omega
   rw [hln9] at hO ⊢;have HO9 := LH hO;have HS9 := LH (HS5.out.trans' hS6 fun i hi _ => hi);clear hO hS6 hln9;go_wp2;go_roundw
   case rel => exact ⟨q + 1, by go_num, by omega, HO9.out, HS9.out⟩
   case measure => simp [intOf]; omega
  ·obtain rfl : q = l.length := by omega
   have HOV : Hid (OwnR sC 1 9 wr w.heap.size (.slice Av l.length cv) (l.map F)) := LH (by have := HOV.out; rw [List.take_length] at this; exact this);clear hS hln;go_wp2_with (go_at_call 26; refine stopAt ?_);unfold Hid;refine (join_any [44, 32] (l.map F) _ w.heap.size wr HOV.out (by have := HN.out; rw [List.length_map]; omega) HJ.out).mono ?_;rintro e w5 ⟨rfl, hS⟩;have HS5 := LH (HS.out.trans hS);clear hS;go_wp2;go_ret;exact ⟨rfl, HS5.out⟩
set_option maxRecDepth 100000 in
set_option maxHeartbeats 4000000 in
theorem list_Rw (F : (List Ex) → List UInt8) (M : Nat) (hM : M ≤ 2000000000) (l : List (List Ex)) (v : Value) (w : World) (h : LsR rwCs 1 rwOk w (fun _ => True) v l) (hE : EnvT w) (hn : l.length ≤ 16) (hF : ∀ x ∈ l, (F x).length ≤ M)
  (hcall : ∀ (i : Nat) (hi : i < l.length) (u : Value) (W : World), rwOk W (fun _ => True) u l[i] → EnvT W → Calls Tryz.prog 45 #[u] W (TextP (F l[i]) W)) :
  Calls Tryz.prog 44 #[v, .func (.func 45) #[] #[]] w (TextP (joinT [44, 32] (l.map F)) w) := by
 obtain ⟨A, c, rfl, hc1, hc2⟩ := h.form;unfold maxLen at hc2
 have hj : (joinT [44, 32] (l.map F)).length ≤ 100000000000 := by
  have h1 := join_len [44, 32] M (l.map F) fun x hx => by
   obtain ⟨y, hy, rfl⟩ := List.mem_map.1 hx;exact hF y hy
  rw [List.length_map] at h1;have h2 : l.length * (M + [44, 32].length) ≤ 16 * (2000000000 + 2) := Nat.mul_le_mul hn (by simp only [List.length_cons, List.length_nil]; omega);omega
 have HL := LH h;have HE := LH hE;have HC := LH hcall;have HJ := LH hj;have HN := LH hn;clear h hE hcall hj hn hF hM;go_enter Tryz.func44, Tryz.ntmps44;go_wp2;go_loopw [5, 10] (fun v i wr => ∃ q : Nat, i = .int .i64 (q : Int) ∧ q ≤ l.length ∧ OwnR sC 1 9 wr w.heap.size v ((l.take q).map F) ∧ Same (fun _ => True) w wr) (fun _ i _ => l.length - (intOf i).toNat)
 case atStart => exact ⟨0, rfl, Nat.zero_le _, OwnR.nil _ _, Same.refl _ _⟩
 case round =>
  obtain ⟨q, rfl, hq, hov, hS⟩ := hrel;obtain ⟨Av, cv, rfl, hv1, hv2⟩ := hov.form;have hln : ((l.take q).map F).length = q := by rw [List.length_map, List.length_take]; omega
  rw [hln] at hov hv1 ⊢;unfold maxLen at hv2;have x1 : (0 : Int) ≤ (q : Int) := by omega
  have HS := LH hS;have HE2 := LH (HE.out.keepAll hS);have HOV := LH hov;clear hov;by_cases hql : q < l.length
  ·have x2 : (q : Int) < (l.length : Int) := by omega
   obtain ⟨ad, u, rfl, hok, hcl⟩ := LsR.at_ (HL.out.keepAll rwK hS) rwCs_len hql;obtain ⟨A_u, c_u, rfl, -, -⟩ := (show ExL _ _ u l[q] from hok).form;have d0 := hcl 0 (by omega);rw [add_zero, Nat.mul_one] at d0;simp only [rwCs, LG] at d0;have HOK := LH hok;clear hok hS hcl;go_wp2_with (go_at_call 45; refine stopAt ?_);unfold Hid;refine (HC.out q hql _ _ (rwK.keep HOK.out (Same.refl (fun _ => True) wr)) (HE2.out.keepAll (Same.refl (fun _ => True) wr))).mono ?_;rintro e w5 ⟨rfl, hS⟩;have HS5 := LH ((HS.out.trans (Same.refl (fun _ => True) wr)).trans hS);have HOV5 := LH (HOV.out.keepAll ((Same.refl (fun _ => True) wr).trans hS));clear hS;go_wp2_with (at_builtin; refine stopAt ?_);unfold Hid;refine wpList_appR1 TSs (fun _ => rfl) (fun x u hu => by simp only [sC, List.mem_cons, List.not_mem_nil, or_false] at hu; rw [hu]; rfl) rfl (.tmp 14) (.tmp 18) rfl (f := sC) (B := w.heap.size) (v := .slice Av q cv) (l := (l.take q).map F) (c := F l[q]) rfl rfl rfl HOV5.out HS5.out.size (by rw [hln]; simp only [maxLen]; omega) (by rw [hln]; have := HN.out; omega) ?_;intro v' w6 hO hS6
   have hO : OwnR sC 1 9 w6 w.heap.size v' ((l.take (q + 1)).map F) := by
    rw [List.take_add_one, List.getElem?_eq_getElem hql, List.map_append];exact hO
   obtain ⟨A9, c9, rfl, -, -⟩ := hO.form;have hln9 : ((l.take (q + 1)).map F).length = q + 1 := by rw [List.length_map, List.length_take]; omega
   rw [hln9] at hO ⊢;have HO9 := LH hO;have HS9 := LH (HS5.out.trans' hS6 fun i hi _ => hi);clear hO hS6 hln9;go_wp2;go_roundw
   case rel => exact ⟨q + 1, by go_num, by omega, HO9.out, HS9.out⟩
   case measure => simp [intOf]; omega
  ·obtain rfl : q = l.length := by omega
   have HOV : Hid (OwnR sC 1 9 wr w.heap.size (.slice Av l.length cv) (l.map F)) := LH (by have := HOV.out; rw [List.take_length] at this; exact this);clear hS hln;go_wp2_with (go_at_call 26; refine stopAt ?_);unfold Hid;refine (join_any [44, 32] (l.map F) _ w.heap.size wr HOV.out (by have := HN.out; rw [List.length_map]; omega) HJ.out).mono ?_;rintro e w5 ⟨rfl, hS⟩;have HS5 := LH (HS.out.trans hS);clear hS;go_wp2;go_ret;exact ⟨rfl, HS5.out⟩
set_option maxRecDepth 100000 in
set_option maxHeartbeats 4000000 in
theorem list_As (F : Asn → List UInt8) (M : Nat) (hM : M ≤ 2000000000) (l : List Asn) (v : Value) (w : World) (h : LsR asCs 7 asOk w (fun _ => True) v l) (hE : EnvT w) (hn : l.length ≤ 16) (hF : ∀ x ∈ l, (F x).length ≤ M)
  (hcall : ∀ (i : Nat) (hi : i < l.length) (u : Value) (W : World), asOk W (fun _ => True) u l[i] → EnvT W → Calls Tryz.prog 49 #[asV u l[i]] W (TextP (F l[i]) W)) :
  Calls Tryz.prog 48 #[v, .func (.func 49) #[] #[]] w (TextP (joinT [44, 32] (l.map F)) w) := by
 obtain ⟨A, c, rfl, hc1, hc2⟩ := h.form;unfold maxLen at hc2
 have hj : (joinT [44, 32] (l.map F)).length ≤ 100000000000 := by
  have h1 := join_len [44, 32] M (l.map F) fun x hx => by
   obtain ⟨y, hy, rfl⟩ := List.mem_map.1 hx;exact hF y hy
  rw [List.length_map] at h1;have h2 : l.length * (M + [44, 32].length) ≤ 16 * (2000000000 + 2) := Nat.mul_le_mul hn (by simp only [List.length_cons, List.length_nil]; omega);omega
 have HL := LH h;have HE := LH hE;have HC := LH hcall;have HJ := LH hj;have HN := LH hn;clear h hE hcall hj hn hF hM;go_enter Tryz.func48, Tryz.ntmps48;go_wp2;go_loopw [5, 10] (fun v i wr => ∃ q : Nat, i = .int .i64 (q : Int) ∧ q ≤ l.length ∧ OwnR sC 1 9 wr w.heap.size v ((l.take q).map F) ∧ Same (fun _ => True) w wr) (fun _ i _ => l.length - (intOf i).toNat)
 case atStart => exact ⟨0, rfl, Nat.zero_le _, OwnR.nil _ _, Same.refl _ _⟩
 case round =>
  obtain ⟨q, rfl, hq, hov, hS⟩ := hrel;obtain ⟨Av, cv, rfl, hv1, hv2⟩ := hov.form;have hln : ((l.take q).map F).length = q := by rw [List.length_map, List.length_take]; omega
  rw [hln] at hov hv1 ⊢;unfold maxLen at hv2;have x1 : (0 : Int) ≤ (q : Int) := by omega
  have HS := LH hS;have HE2 := LH (HE.out.keepAll hS);have HOV := LH hov;clear hov;by_cases hql : q < l.length
  ·have x2 : (q : Int) < (l.length : Int) := by omega
   obtain ⟨ad, u, rfl, hok, hcl⟩ := LsR.at_ (HL.out.keepAll asK hS) asCs_len hql;obtain ⟨A_u, c_u, rfl, -, -⟩ := (show ExR _ _ u l[q].e from hok).toL.form;have d0 := hcl 0 (by omega);rw [add_zero] at d0;have d1 := hcl 1 (by omega);rw [addr_add _ _ (by omega)] at d1;have d2 := hcl 2 (by omega);rw [addr_add _ _ (by omega)] at d2;have d3 := hcl 3 (by omega);rw [addr_add _ _ (by omega)] at d3;have d4 := hcl 4 (by omega);rw [addr_add _ _ (by omega)] at d4;have d5 := hcl 5 (by omega);rw [addr_add _ _ (by omega)] at d5;have d6 := hcl 6 (by omega);rw [addr_add _ _ (by omega)] at d6;simp only [asCs, exCs, LG] at d0 d1 d2 d3 d4 d5 d6;have HOK := LH hok;clear hok hS hcl;go_wp2_with (go_at_call 49; refine stopAt ?_);unfold Hid;refine (HC.out q hql _ _ (asK.keep HOK.out ((Same.refl (fun _ => True) wr).alloc _)) (HE2.out.keepAll ((Same.refl (fun _ => True) wr).alloc _))).mono ?_;rintro e w5 ⟨rfl, hS⟩;have HS5 := LH ((HS.out.trans ((Same.refl (fun _ => True) wr).alloc _)).trans hS);have HOV5 := LH (HOV.out.keepAll (((Same.refl (fun _ => True) wr).alloc _).trans hS));clear hS;go_wp2_with (at_builtin; refine stopAt ?_);unfold Hid;refine wpList_appR1 TSs (fun _ => rfl) (fun x u hu => by simp only [sC, List.mem_cons, List.not_mem_nil, or_false] at hu; rw [hu]; rfl) rfl (.tmp 14) (.tmp 18) rfl (f := sC) (B := w.heap.size) (v := .slice Av q cv) (l := (l.take q).map F) (c := F l[q]) rfl rfl rfl HOV5.out HS5.out.size (by rw [hln]; simp only [maxLen]; omega) (by rw [hln]; have := HN.out; omega) ?_;intro v' w6 hO hS6
   have hO : OwnR sC 1 9 w6 w.heap.size v' ((l.take (q + 1)).map F) := by
    rw [List.take_add_one, List.getElem?_eq_getElem hql, List.map_append];exact hO
   obtain ⟨A9, c9, rfl, -, -⟩ := hO.form;have hln9 : ((l.take (q + 1)).map F).length = q + 1 := by rw [List.length_map, List.length_take]; omega
   rw [hln9] at hO ⊢;have HO9 := LH hO;have HS9 := LH (HS5.out.trans' hS6 fun i hi _ => hi);clear hO hS6 hln9;go_wp2;go_roundw
   case rel => exact ⟨q + 1, by go_num, by omega, HO9.out, HS9.out⟩
   case measure => simp [intOf]; omega
  ·obtain rfl : q = l.length := by omega
   have HOV : Hid (OwnR sC 1 9 wr w.heap.size (.slice Av l.length cv) (l.map F)) := LH (by have := HOV.out; rw [List.take_length] at this; exact this);clear hS hln;go_wp2_with (go_at_call 26; refine stopAt ?_);unfold Hid;refine (join_any [44, 32] (l.map F) _ w.heap.size wr HOV.out (by have := HN.out; rw [List.length_map]; omega) HJ.out).mono ?_;rintro e w5 ⟨rfl, hS⟩;have HS5 := LH (HS.out.trans hS);clear hS;go_wp2;go_ret;exact ⟨rfl, HS5.out⟩
theorem showI_len {m : Nat} {x : Itm} (h : mayI m x = true) (hI : ExI x.e) : (showI x).length ≤ 13107300 := by
 unfold mayI at h;unfold showI;by_cases h1 : x.kind = 1
 ·rw [if_pos h1]; simp
 rw [if_neg h1] at h ⊢;by_cases h3 : x.kind = 3
 ·rw [if_pos h3]; simp
 rw [if_neg h3] at h ⊢;by_cases h24 : x.kind = 2 ∨ x.kind = 4
 ·rw [if_pos h24] at h;have := showE_most h (by omega) hI;split
  ·simp; omega
  ·omega
 ·rw [if_neg h24] at h; cases h
theorem showA_len {x : Asn} (hn : wordF x.name = true) (h : mayE x.e 16 = true) (hI : ExI x.e) : (showA x).length ≤ 13107300 := by
 have := showE_most h (by omega) hI;have := word_len hn;unfold showA;simp; omega
theorem rowT_len {r : List Ex} (h : mayRow r = true) (hI : ∀ e ∈ r, ExI e) : (joinT [44, 32] (r.map showE)).length ≤ 78643300 := by
 simp only [mayRow, Bool.and_eq_true, List.all_eq_true, decide_eq_true_eq] at h
 have h1 := join_len [44, 32] 13107200 (r.map showE) fun x hx => by
  obtain ⟨y, hy, rfl⟩ := List.mem_map.1 hx;exact showE_most (h.2 y hy) (by omega) (hI y hy)
 rw [List.length_map] at h1;have h2 : r.length * (13107200 + [44, 32].length) ≤ 6 * (13107200 + 2) := Nat.mul_le_mul h.1.2 (by simp);omega
theorem showR_len {r : List Ex} (h : mayRow r = true) (hI : ∀ e ∈ r, ExI e) : (showR r).length ≤ 78643400 := by
 have := rowT_len h hI;unfold showR;simp; omega
set_option maxRecDepth 100000 in
set_option maxHeartbeats 4000000 in
theorem itemx_any (m : Nat) (x : Itm) (u : Value) (w : World) (h : mayI m x = true) (hI : ExI x.e) (hr : ExR w (fun _ => True) u x.e) (hE : EnvT w) : Calls Tryz.prog 43 #[itV u x] w (TextP (showI x) w) := by
 obtain ⟨A, c, rfl, -, -⟩ := hr.toL.form;obtain ⟨X, hX⟩ : ∃ X, X = showI x := ⟨_, rfl⟩;rw [← hX];have HX := LH hX;have hA := (Same.refl (fun _ => True) w).alloc (.cells #[.int .i64 x.kind, .int .i64 x.e.kind, .string (str x.e.s), .int .i64 x.e.v.kind, .int .i64 x.e.v.n, .string (str x.e.v.s), .slice A x.e.args.length c] 63);have hrow := Row.new w 63 [.int .i64 x.kind, .int .i64 x.e.kind, .string (str x.e.s), .int .i64 x.e.v.kind, .int .i64 x.e.v.n, .string (str x.e.v.s), .slice A x.e.args.length c];have hr1 := hr.keepAll hA;have hE1 := hE.keepAll hA;clear hX hr hE;go_enter Tryz.func43, Tryz.ntmps43;go_upto_region 1 with (fail);revert hA hrow hr1 hE1;generalize w.alloc _ = w1;intro hA hrow hr1 hE1;have HS := LH hA;have HE := LH hE1;have HR := LH hr1;obtain ⟨c0, c1, c2, c3, c4, c5, c6⟩ := CN7 hrow;clear hA hrow hr1 hE1;unfold mayI at h;by_cases k1 : x.kind = 1
 ·have f1 := int_eq_t k1;have HB : Hid ([42] = X) := LH (by rw [HX.out]; unfold showI; rw [if_pos k1]);clear k1 h;go_wp2;go_ret;exact ⟨ret_str HB.out, HS.out⟩
 have f1 := int_eq_f k1;rw [if_neg k1] at h;by_cases k3 : x.kind = 3
 ·have f3 := int_eq_t k3;have HB : Hid ([67, 79, 85, 78, 84, 32, 40, 42, 41] = X) := LH (by rw [HX.out]; unfold showI; rw [if_neg k1, if_pos k3]);clear k1 k3 h;go_wp2;go_ret;exact ⟨ret_str HB.out, HS.out⟩
 have f3 := int_eq_f k3;rw [if_neg k3] at h
 have h24 : x.kind = 2 ∨ x.kind = 4 := by
  by_cases hh : x.kind = 2 ∨ x.kind = 4
  ·exact hh
  ·rw [if_neg hh] at h; cases h
 rw [if_pos h24] at h;have hlen := showE_most h (by omega) hI;have ht := text_any x.e 16 (.slice A x.e.args.length c) w1 (by omega) h hI HR.out HE.out;obtain ⟨D, hD⟩ : ∃ D, D = showE x.e := ⟨_, rfl⟩;rw [← hD] at hlen ht;have HD := LH hD;clear hD h24 h hI;by_cases k4 : x.kind = 4
 ·have f4 := int_eq_t k4;have HB : Hid ([83, 85, 77, 32, 40] ++ D ++ [41] = X) := LH (by rw [HX.out, HD.out]; unfold showI; rw [if_neg k1, if_neg k3, if_pos k4]);have a1 : ∀ w, (Op.stringOp .add ⟨#[83, 85, 77, 32, 40]⟩ (str D)).run Tryz.prog w = .ok (.string (str ([83, 85, 77, 32, 40] ++ D))) w := fun w => add_str [83, 85, 77, 32, 40] D (by simp; omega) w
  have a2 : ∀ w, (Op.stringOp .add (str ([83, 85, 77, 32, 40] ++ D)) ⟨#[41]⟩).run Tryz.prog w = .ok (.string (str ([83, 85, 77, 32, 40] ++ D ++ [41]))) w := fun w => add_str ([83, 85, 77, 32, 40] ++ D) [41] (by simp; omega) w
  generalize hY : [83, 85, 77, 32, 40] ++ D = Y at a1 a2 HB;clear k1 k3 k4 hY hlen;go_wp2_with (go_at_call 47; refine stopAt ?_);unfold Hid;refine ht.mono ?_;rintro e w2 ⟨rfl, hS⟩;have HS := LH (HS.out.trans hS);clear hS ht;go_wp2;go_ret;exact ⟨ret_str HB.out, HS.out⟩
 ·have f4 := int_eq_f k4;have HB : Hid (D = X) := LH (by rw [HX.out, HD.out]; unfold showI; rw [if_neg k1, if_neg k3, if_neg k4]);clear k1 k3 k4 hlen;go_wp2_with (go_at_call 47; refine stopAt ?_);unfold Hid;refine ht.mono ?_;rintro e w2 ⟨rfl, hS⟩;have HS := LH (HS.out.trans hS);clear hS ht;go_wp2;go_ret;exact ⟨ret_str HB.out, HS.out⟩
set_option maxHeartbeats 2000000 in
theorem rowx_any (r : List Ex) (u : Value) (w : World) (h : mayRow r = true) (hI : ∀ e ∈ r, ExI e) (hr : ExL w (fun _ => True) u r) (hE : EnvT w) : Calls Tryz.prog 45 #[u] w (TextP (showR r) w) := by
 have hlen := rowT_len h hI;simp only [mayRow, Bool.and_eq_true, List.all_eq_true, decide_eq_true_eq] at h;have hl := list_Ex showE 13107200 (by omega) r u w (ls_exL.2 hr) hE (by omega) (fun x hx => showE_most (h.2 x hx) (by omega) (hI x hx)) fun i hi u' W hu hE' => text_any r[i] 16 u' W (by omega) (h.2 _ (List.getElem_mem hi)) (hI _ (List.getElem_mem hi)) hu hE'
 obtain ⟨D, hD⟩ : ∃ D, D = joinT [44, 32] (r.map showE) := ⟨_, rfl⟩;rw [← hD] at hlen hl;have HB : Hid ([40] ++ D ++ [41] = showR r) := LH (by rw [hD]; rfl);have a1 : ∀ w, (Op.stringOp .add ⟨#[40]⟩ (str D)).run Tryz.prog w = .ok (.string (str ([40] ++ D))) w := fun w => add_str [40] D (by simp; omega) w
 have a2 : ∀ w, (Op.stringOp .add (str ([40] ++ D)) ⟨#[41]⟩).run Tryz.prog w = .ok (.string (str ([40] ++ D ++ [41]))) w := fun w => add_str ([40] ++ D) [41] (by simp; omega) w
 generalize hY : [40] ++ D = Y at a1 a2 HB;clear hY hlen hD h hI hr hE;go_enter Tryz.func45, Tryz.ntmps45;go_wp2_with (go_at_call 46; refine stopAt ?_);unfold Hid;refine hl.mono ?_;rintro e w2 ⟨rfl, hS⟩;have HS := LH hS;clear hS hl;go_wp2;go_ret;exact ⟨ret_str HB.out, HS.out⟩
set_option maxRecDepth 100000 in
set_option maxHeartbeats 4000000 in
theorem asnx_any (x : Asn) (u : Value) (w : World) (hn : wordF x.name = true) (h : mayE x.e 16 = true) (hI : ExI x.e) (hr : ExR w (fun _ => True) u x.e) (hE : EnvT w) : Calls Tryz.prog 49 #[asV u x] w (TextP (showA x) w) := by
 obtain ⟨A, c, rfl, -, -⟩ := hr.toL.form;have hA := (Same.refl (fun _ => True) w).alloc (.cells #[.string (str x.name), .int .i64 x.e.kind, .string (str x.e.s), .int .i64 x.e.v.kind, .int .i64 x.e.v.n, .string (str x.e.v.s), .slice A x.e.args.length c] 65);have hrow := Row.new w 65 [.string (str x.name), .int .i64 x.e.kind, .string (str x.e.s), .int .i64 x.e.v.kind, .int .i64 x.e.v.n, .string (str x.e.v.s), .slice A x.e.args.length c];have hr1 := hr.keepAll hA;have hE1 := hE.keepAll hA;clear hr hE;go_enter Tryz.func49, Tryz.ntmps49;go_upto_region 1 with (fail);revert hA hrow hr1 hE1;generalize w.alloc _ = w1;intro hA hrow hr1 hE1;have HS := LH hA;obtain ⟨c0, c1, c2, c3, c4, c5, c6⟩ := CN7 hrow;have hlen := showE_most h (by omega) hI;have hlen2 := word_len hn;have gA : ∀ W, Same (fun _ => True) w1 W → Calls Tryz.prog 47 #[exV (.slice A x.e.args.length c) x.e] W (TextP (showE x.e) W) := fun W hs => text_any x.e 16 _ W (by omega) h hI (hr1.keepAll hs) (hE1.keepAll hs)
 obtain ⟨D, hD⟩ : ∃ D, D = showE x.e := ⟨_, rfl⟩;rw [← hD] at hlen gA;obtain ⟨Y1, hY1⟩ : ∃ Y, Y = x.name ++ [32, 61, 32] := ⟨_, rfl⟩;obtain ⟨Y2, hY2⟩ : ∃ Y, Y = Y1 ++ D := ⟨_, rfl⟩;have l1 : Y1.length = x.name.length + 3 := by rw [hY1, List.length_append]; rfl
 have a1 : ∀ w, (Op.stringOp .add (str x.name) ⟨#[32, 61, 32]⟩).run Tryz.prog w = .ok (.string (str Y1)) w := fun w => hY1 ▸ add_str x.name [32, 61, 32] (by simp; omega) w
 have a2 : ∀ w, (Op.stringOp .add (str Y1) (str D)).run Tryz.prog w = .ok (.string (str Y2)) w := fun w => hY2 ▸ add_str Y1 D (by omega) w
 have HB : Hid (Y2 = showA x) := LH (by rw [hY2, hY1, hD]; rfl);clear hA hrow hr1 hE1 hlen hlen2 l1 hD hY1 hY2 hn h hI;refine wp_region_eq_lit (vs := [(.pointer (some ⟨w.heap.size, 0, none⟩)), (.string (str x.name)), (.string (str Y1)), (.pointer (some ⟨w.heap.size, 1, none⟩)), (exV (.slice A x.e.args.length c) x.e), (.string (str D)), (.string (str Y2)), (.string (str Y2))]) (by kernel_rfl) (by kernel_rfl) rfl rfl ?_ ?_
 ·refine ⟨?_, ?_, ?_, ?_, ?_, ?_, ?_, ?_, tv⟩
  all_goals intro ac wc hs hd hz hf hw K hK
  ·have e0 := EP 1 w.heap.size 0 (hf 1 rfl);clear hd hz hf hw;simp only [if_true, RL, e0];go_simp;exact hK _ _ rfl SR
  ·have e0 := EP 3 w.heap.size 0 (hw 0 rfl);have m0 := MC c0 hs tv;clear hd hz hf hw;simp only [if_true, RL, e0];go_simp;exact hK _ _ rfl SR
  ·have e0 := EV 4 (.string (str x.name)) (hw 1 rfl);clear hd hz hf hw;simp only [if_true, RL, e0];go_simp;exact hK _ _ rfl SR
  ·have e0 := EP 1 w.heap.size 0 (hf 1 rfl);clear hd hz hf hw;simp only [if_true, RL, e0];go_simp;exact hK _ _ rfl SR
  ·have e0 := EP 6 w.heap.size 1 (hw 3 rfl);have m0 := MC c1 hs tv;have m1 := MC c2 hs tv;have m2 := MC c3 hs tv;have m3 := MC c4 hs tv;have m4 := MC c5 hs tv;have m5 := MC c6 hs tv;clear hd hz hf hw;simp only [if_true, RL, e0];go_simp;exact hK _ _ rfl SR
  ·have e0 := EV 7 (exV (.slice A x.e.args.length c) x.e) (hw 4 rfl);clear hd hz hf hw;simp only [if_true, RL, e0];go_simp;refine (gA _ hs).mono ?_;rintro e wd ⟨rfl, hsd⟩;exact hK _ _ rfl hsd
  ·have e0 := EV 5 (.string (str Y1)) (hw 2 rfl);have e1 := EV 8 (.string (str D)) (hw 5 rfl);clear hd hz hf hw;simp only [if_true, RL, e0, e1];go_simp;exact hK _ _ rfl SR
  ·have e0 := EV 9 (.string (str Y2)) (hw 6 rfl);clear hd hz hf hw;simp only [if_true, RL, e0];go_simp;exact hK _ _ rfl SR
 ·intro wR hsR;simp only [putAll, Act.put, LP];have HS := LH (HS.out.trans hsR);clear hsR;go_wp2;go_ret;exact ⟨ret_str HB.out, HS.out⟩
end Go.Proofs.YtdfojghhpdkpfaaGreatDoor
