/-
  Words, plain models, laws and walks that the claims of this layer share (joined by shake.py). No condition.
-/
import Derived.Shelf.Strings.Builder1
import Derived.Shelf.Strings.Builder2
import Derived.Shelf.Strings.OnBuilder
import Derived.Shelf.Strings.BuilderF
import Derived.Shelf.Strings.BuilderK
import Derived.Shelf.Utf8.RuneCount
import Derived.Shelf.Strings.Builder2Cap
import Derived.Shelf.Strconv.Itoa0
import Derived.Shelf.Strconv.Itoa1
import Derived.Shelf.LaysM
import Derived.Shelf.Strconv.Itoa2
import Derived.Shelf.Strconv.Itoa3
import Derived.Shelf.Strconv.Itoa4
import Derived.Shelf.Strings.Search1
import Derived.Shelf.Strings.Search2
import Derived.Shelf.Strings.Search3
import Derived.Shelf.Strings.Count
import Derived.Shelf.Strings.Shaped
import Derived.Shelf.Strings.Split
import Derived.Shelf.Strings.Replace
import Derived.Shelf.Strings.SplitShaped
import Derived.Shelf.Unicode.Decode
import Derived.Shelf.Strings.RuneCount
import Derived.Shelf.Unicode.DecodeSlow
import Derived.Shelf.Unicode.DecodeAny
import Derived.Shelf.Strings.BuilderCap
import Derived.Test.YtdfojghhpdkpfaaGreatDoorProg
import Derived.Test.YtdfojghhpdkpfaaGreatDoorG1
set_option linter.unusedSimpArgs false
set_option linter.unusedVariables false
namespace Go.Proofs.YtdfojghhpdkpfaaGreatDoor
open Go.RowKit
theorem bl_get (s : ByteArray) (k : Nat) (h : k < s.size) : (bl s).drop k = s[k] :: (bl s).drop (k + 1) := by
 rw [List.drop_eq_getElem_cons (by rw [bl_len]; exact h)];rfl
/-- The run from the front, a byte further. -/
theorem runF_step (p : UInt8 → Bool) (s : ByteArray) (k : Nat) (h : k < s.size) (hk : k + runF p ((bl s).drop k) = runF p (bl s)) :
  (p s[k] = true → k + 1 + runF p ((bl s).drop (k + 1)) = runF p (bl s)) ∧ (p s[k] = false → runF p (bl s) = k) := by
 rw [bl_get s k h] at hk;constructor
 ·intro hp;simp only [runF, List.takeWhile_cons, hp, if_true, List.length_cons] at hk;unfold runF;omega
 ·intro hp;simp only [runF, List.takeWhile_cons, hp, if_false, Bool.false_eq_true, List.length_nil] at hk;unfold runF;omega
theorem ret_i64 {a b : Int} (h : a = b) : Ending.returned (.int .i64 a) = .returned (.int .i64 b) := by rw [h]
set_option maxHeartbeats 400000 in
theorem lexrunw_any (s : ByteArray) (w : World) (hs : s.size ≤ maxLen) :
  Calls Tryz.prog 76 #[.string s, .func (.func 77) #[] #[]] w fun e w' => e = .returned (.int .i64 (runF isWordy (bl s))) ∧ w = w' := by
 unfold maxLen at hs;go_enter Tryz.func76, Tryz.ntmps76;go_wp2;go_loop [5] (fun i => ∃ k : Nat, k ≤ s.size ∧ i = .int .i64 k ∧ k + runF isWordy ((bl s).drop k) = runF isWordy (bl s)) (fun i => s.size - (intOf i).toNat)
 case atStart => exact ⟨0, Nat.zero_le _, rfl, by simp⟩
 case round =>
  obtain ⟨k, hk, rfl, hrun⟩ := hrel;by_cases hlt : k < s.size
  ·have hst := runF_step isWordy s k hlt hrun;have HR := LH hrun;clear hrun;cases hp : isWordy s[k]
   ·have HS := LH (hst.2 hp);clear hst;have g := lexwordy_any s[k] w;rw [hp] at g;clear hp;go_wp2_with (go_at_call 77; refine g.mono ?_; rintro e w' ⟨rfl, rfl⟩);go_ret;exact ⟨ret_i64 (by rw [HS.out]), rfl⟩
   ·have HS := LH (hst.1 hp);clear hst;have g := lexwordy_any s[k] w;rw [hp] at g;clear hp;go_wp2_with (go_at_call 77; refine g.mono ?_; rintro e w' ⟨rfl, rfl⟩);go_round
    case rel => exact ⟨k + 1, by omega, by go_num, HS.out⟩
    case measure => simp [intOf]; omega
  ·have HR := LH hrun;clear hrun;go_wp2;go_ret;refine ⟨ret_i64 ?_, rfl⟩;have := HR.out;rw [List.drop_eq_nil_of_le (by rw [bl_len]; omega)] at this;simp [runF] at this ⊢;omega
set_option maxHeartbeats 400000 in
theorem lexrund_any (s : ByteArray) (w : World) (hs : s.size ≤ maxLen) :
  Calls Tryz.prog 76 #[.string s, .func (.func 79) #[] #[]] w fun e w' => e = .returned (.int .i64 (runF isDig (bl s))) ∧ w = w' := by
 unfold maxLen at hs;go_enter Tryz.func76, Tryz.ntmps76;go_wp2;go_loop [5] (fun i => ∃ k : Nat, k ≤ s.size ∧ i = .int .i64 k ∧ k + runF isDig ((bl s).drop k) = runF isDig (bl s)) (fun i => s.size - (intOf i).toNat)
 case atStart => exact ⟨0, Nat.zero_le _, rfl, by simp⟩
 case round =>
  obtain ⟨k, hk, rfl, hrun⟩ := hrel;by_cases hlt : k < s.size
  ·have hst := runF_step isDig s k hlt hrun;have HR := LH hrun;clear hrun;cases hp : isDig s[k]
   ·have HS := LH (hst.2 hp);clear hst;have g := lexdigit_any s[k] w;rw [hp] at g;clear hp;go_wp2_with (go_at_call 79; refine g.mono ?_; rintro e w' ⟨rfl, rfl⟩);go_ret;exact ⟨ret_i64 (by rw [HS.out]), rfl⟩
   ·have HS := LH (hst.1 hp);clear hst;have g := lexdigit_any s[k] w;rw [hp] at g;clear hp;go_wp2_with (go_at_call 79; refine g.mono ?_; rintro e w' ⟨rfl, rfl⟩);go_round
    case rel => exact ⟨k + 1, by omega, by go_num, HS.out⟩
    case measure => simp [intOf]; omega
  ·have HR := LH hrun;clear hrun;go_wp2;go_ret;refine ⟨ret_i64 ?_, rfl⟩;have := HR.out;rw [List.drop_eq_nil_of_le (by rw [bl_len]; omega)] at this;simp [runF] at this ⊢;omega
/-- The bytes of a string, laid anew. -/
theorem lexup_set (l : List UInt8) (k : Nat) (h : k < l.length) : (cs8 ((l.take k).map upB ++ l.drop k)).set k (V8 (upB l[k])) = cs8 ((l.take (k + 1)).map upB ++ l.drop (k + 1)) := by
 rw [List.drop_eq_getElem_cons h, List.take_succ_eq_append_getElem h];simp only [cs8, List.map_append, List.map_cons, List.map_nil];rw [List.set_append_right _ _ (by simp; omega)];simp;rw [show k - min k l.length = 0 from by omega];simp
theorem lexup_get (l : List UInt8) (more : List Value) (k : Nat) (h : k < l.length) : (cs8 ((l.take k).map upB ++ l.drop k) ++ more)[k]? = some (V8 l[k]) := by
 have hlt : k < (cs8 ((l.take k).map upB ++ l.drop k)).length := by simp [cs8]; omega
 rw [List.getElem?_append_left hlt];simp only [cs8, List.getElem?_map];rw [List.getElem?_append_right (by simp; omega), List.getElem?_drop];rw [show k + (k - ((l.take k).map upB).length) = k from by simp; omega, List.getElem?_eq_getElem h];rfl
theorem lexup_keep (l : List UInt8) (k : Nat) (h : k < l.length) (he : upB l[k] = l[k]) : (l.take k).map upB ++ l.drop k = (l.take (k + 1)).map upB ++ l.drop (k + 1) := by
 rw [List.drop_eq_getElem_cons h, List.take_succ_eq_append_getElem h, List.map_append, List.map_cons, List.map_nil, he, List.append_assoc];rfl
theorem upB_eq (c : UInt8) : n8 (upB c) = if 97 ≤ n8 c ∧ n8 c ≤ 122 then n8 c - 32 else n8 c := by
 have := u8_all (p := fun c => decide (n8 (upB c) = if 97 ≤ n8 c ∧ n8 c ≤ 122 then n8 c - 32 else n8 c)) (by decide +kernel) c;simpa using this
set_option maxHeartbeats 1000000 in
theorem lexupper_any (s : ByteArray) (w : World) (hs : s.size ≤ 100000) :
  Calls Tryz.prog 78 #[.string s] w fun e w' => e = .returned (.string (str ((bl s).map upB))) ∧ Same (fun _ => True) w w' := by
 have hbl := bl_len s;have Hbl := LH hbl;clear hbl;go_enter Tryz.func78, Tryz.ntmps78;go_wp2_with (with_reducible refine stopConv rfl ?_);unfold Hid;refine wpList_bytes rfl rfl Tryz.underlying9 Tryz.underlying51 Tryz.underlying5 s rfl (by simp only [maxLen]; omega) ?_;intro w1 c q more hrow hq hc hm hS hsz;unfold maxLen at hm;go_wp2;go_loopw [4, 5, 10] (fun _ _ i wr => ∃ k : Nat, k ≤ s.size ∧ i = .int .i64 k ∧ RowQ wr w.heap.size 5 q (cs8 (((bl s).take k).map upB ++ (bl s).drop k) ++ more) ∧ Same (fun _ => True) w wr) (fun _ _ i _ => s.size - (intOf i).toNat)
 case atStart => exact ⟨0, Nat.zero_le _, rfl, by simpa using hrow, hS⟩
 case round =>
  obtain ⟨k, hk, rfl, hr, hS'⟩ := hrel;by_cases hlt : k < s.size
  ·have hl : k < (bl s).length := by rw [Hbl.out]; exact hlt
   have hcell := hr.cell k;have hfr := hr.frozen k (by omega);have hset := lexup_set (bl s) k hl
   have hset2 : (cs8 (((bl s).take k).map upB ++ (bl s).drop k) ++ more).set k (V8 (upB (bl s)[k])) = cs8 (((bl s).take (k + 1)).map upB ++ (bl s).drop (k + 1)) ++ more := by
    rw [List.set_append_left _ _ (by simp; omega), hset]
   have hget := lexup_get (bl s) more k hl;have hkeep := lexup_keep (bl s) k hl;rw [hget] at hcell;have hup := upB_eq (bl s)[k];have hb := n8_bd (bl s)[k];have HS2 := LH hset2;have HK := LH hkeep;clear hset hset2 hget hkeep;generalize (bl s)[k] = c0 at *;have hw : w.heap.size < wr.heap.size := hr.lt;by_cases hrange : 97 ≤ n8 c0 ∧ n8 c0 ≤ 122
   ·obtain ⟨h1, h2⟩ := hrange;rw [if_pos ⟨h1, h2⟩] at hup;have HU := LH hup;clear hup;go_wp2;go_roundw
    case rel =>
     refine ⟨k + 1, by omega, by go_num, ?_, hS'.setCell (by simp) _⟩;rw [← HS2.out];have := hr.set_ k (V8 (upB c0));rw [show V8 (upB c0) = Value.int .u8 (n8 c0 - 32) from by simp only [V8]; rw [HU.out]] at this ⊢;exact this
    case measure => simp [intOf]; omega
   ·rw [if_neg hrange] at hup;have heq : upB c0 = c0 := n8_inj.1 hup;have HU := LH heq;clear hup heq;by_cases h1 : 97 ≤ n8 c0
    ·have h2 : 122 < n8 c0 := by omega
     clear hrange;go_wp2;go_roundw
     case rel =>
      refine ⟨k + 1, by omega, by go_num, ?_, hS'⟩;rw [← HK.out HU.out];exact hr
     case measure => simp [intOf]; omega
    ·clear hrange;go_wp2;go_roundw
     case rel =>
      refine ⟨k + 1, by omega, by go_num, ?_, hS'⟩;rw [← HK.out HU.out];exact hr
     case measure => simp [intOf]; omega
  ·obtain rfl : k = s.size := by omega
   have e1 : (bl s).take s.size = bl s := List.take_of_length_le (by rw [Hbl.out]; exact Nat.le_refl _);have e2 : (bl s).drop s.size = [] := List.drop_eq_nil_of_le (by rw [Hbl.out]; exact Nat.le_refl _);rw [e1, e2, List.append_nil] at hr;have hby := hr.by_ (n := s.size) (c := c) (by rw [List.length_map, Hbl.out]) hc (by simp only [maxLen]; omega);have hcv := hby.conv (P := Tryz.prog) 51 9 5 Tryz.underlying51 Tryz.underlying5 Tryz.underlying9;clear e1 e2;have HC := LH hcv;clear hcv hby;go_wp2_with (with_reducible refine stopConv rfl ?_);unfold Hid;refine wpList_conv rfl rfl rfl HC.out ?_;go_wp2;go_ret;exact ⟨rfl, hS'⟩
theorem dropWhile_run (p : UInt8 → Bool) : ∀ l : List UInt8, l.dropWhile p = l.drop (runF p l)
 | [] => rfl
 | c :: l => by
  simp only [List.dropWhile_cons, runF, List.takeWhile_cons];split
  ·simp only [List.length_cons, List.drop_succ_cons];exact dropWhile_run p l
  ·rfl
theorem take_run (p : UInt8 → Bool) : ∀ l : List UInt8, l.takeWhile p = l.take (runF p l)
 | [] => rfl
 | c :: l => by
  simp only [runF, List.takeWhile_cons];split
  ·simp only [List.length_cons, List.take_succ_cons];congr 1;exact take_run p l
  ·rfl
theorem takeWhile_mem (p : UInt8 → Bool) : ∀ (l : List UInt8) (x : UInt8), x ∈ l.takeWhile p → p x = true
 | [], x, h => by simp at h
 | c :: l, x, h => by
  simp only [List.takeWhile_cons] at h;split at h
  ·rename_i hc;rcases List.mem_cons.1 h with rfl | h
   ·exact hc
   ·exact takeWhile_mem p l x h
  ·simp at h
theorem run_all (p : UInt8 → Bool) (l : List UInt8) (k : Nat) (hk : k < runF p l) (hl : k < l.length) : p l[k] = true := by
 have h1 : l[k] ∈ l.take (runF p l) := by
  rw [List.mem_take_iff_getElem];exact ⟨k, by omega, rfl⟩
 rw [← take_run] at h1;exact takeWhile_mem p l _ h1
/-- The digits from the k-th on. -/
theorem digs_step (s : ByteArray) (k : Nat) (hk : k < runF isDig (bl s)) (hs : k < s.size) : ((bl s).takeWhile isDig).drop k = s[k] :: ((bl s).takeWhile isDig).drop (k + 1) ∧ isDig s[k] = true := by
 have hl : k < (bl s).length := by rw [bl_len]; exact hs
 refine ⟨?_, run_all isDig (bl s) k hk hl⟩;rw [take_run, List.drop_eq_getElem_cons (by rw [List.length_take]; omega)];congr 1;rw [List.getElem_take];rfl
theorem digs_end (s : ByteArray) : ((bl s).takeWhile isDig).drop (runF isDig (bl s)) = [] := List.drop_eq_nil_of_le (Nat.le_refl _)
def TokP (r : TRes) (w : World) (e : Ending) (w' : World) : Prop :=
 e = .returned (.tuple #[.agg #[.int .i64 r.t.kind, .int .i64 0, .string (str r.t.s), .int .i64 r.t.n], .int .i64 r.n, .int .i64 r.e]) ∧ Same (fun _ => True) w w'
theorem numF_big {s : ByteArray} (h : numGo 0 ((bl s).takeWhile isDig) = none) : numF (bl s) = tErr 5 := by unfold numF; rw [h]
theorem numF_let {s : ByteArray} {v : Nat} (h : numGo 0 ((bl s).takeWhile isDig) = some v) (hn : runF isDig (bl s) < s.size) : numF (bl s) = if isLet s[runF isDig (bl s)] then tErr 13 else ⟨⟨2, [], v⟩, runF isDig (bl s), 0⟩ := by
 unfold numF;rw [h, dropWhile_run, bl_get s _ hn];rfl
theorem numF_end {s : ByteArray} {v : Nat} (h : numGo 0 ((bl s).takeWhile isDig) = some v) (hn : ¬ runF isDig (bl s) < s.size) : numF (bl s) = ⟨⟨2, [], v⟩, runF isDig (bl s), 0⟩ := by
 unfold numF;rw [h, dropWhile_run, List.drop_eq_nil_of_le (by rw [bl_len]; omega)];rfl
theorem numGo_no {v : Nat} {c : UInt8} {l : List UInt8} (h : (9223372036854775807 - (n8 c - 48)) / 10 < (v : Int)) (hc : isDig c = true) : numGo v (c :: l) = none := by
 have h1 := isDig_eq c;rw [hc] at h1;simp only [Bool.true_eq, Bool.and_eq_true, decide_eq_true_eq] at h1;unfold n8 at h1 h;unfold numGo maxI;rw [if_pos (by omega)]
theorem numGo_yes {v : Nat} {c : UInt8} {l : List UInt8} (h : (v : Int) ≤ (9223372036854775807 - (n8 c - 48)) / 10) (hc : isDig c = true) :
  ∃ v' : Nat, numGo v (c :: l) = numGo v' l ∧ (v' : Int) = 10 * v + (n8 c - 48) ∧ (v' : Int) ≤ 9223372036854775807 := by
 have h1 := isDig_eq c;rw [hc] at h1;simp only [Bool.true_eq, Bool.and_eq_true, decide_eq_true_eq] at h1;unfold n8 at h1 h;refine ⟨10 * v + (c.toNat - 48), ?_, ?_, ?_⟩
 ·conv => lhs; unfold numGo
  unfold maxI;rw [if_neg (by omega)]
 ·unfold n8; omega
 ·omega
theorem isDig_bd {c : UInt8} (h : isDig c = true) : 48 ≤ n8 c ∧ n8 c ≤ 57 := by
 have h1 := isDig_eq c;rw [h] at h1;simpa using h1
set_option maxHeartbeats 1000000 in
theorem lexnumber_any (s : ByteArray) (w : World) (hs : s.size ≤ 100000) :
  Calls Tryz.prog 80 #[.string s] w (TokP (numF (bl s)) w) := by
 have hn := runF_le isDig (bl s);rw [bl_len] at hn;go_enter Tryz.func80, Tryz.ntmps80;go_wp2_with (go_at_call 76; refine (lexrund_any s _ (by unfold maxLen; omega)).mono ?_; rintro e w' ⟨rfl, rfl⟩);go_loop [6, 7, 8, 12] (fun v _ _ i => ∃ k vv : Nat, k ≤ runF isDig (bl s) ∧ i = .int .i64 k ∧ v = .int .i64 vv ∧ (vv : Int) ≤ 9223372036854775807 ∧ numGo 0 ((bl s).takeWhile isDig) = numGo vv (((bl s).takeWhile isDig).drop k)) (fun _ _ _ i => runF isDig (bl s) - (intOf i).toNat)
 case atStart => exact ⟨0, 0, Nat.zero_le _, rfl, rfl, by omega, by simp⟩
 case round =>
  obtain ⟨k, v, hk, rfl, rfl, hv, hrun⟩ := hrel;by_cases hlt : k < runF isDig (bl s)
  ·have hks : k < s.size := by omega
   obtain ⟨hd1, hd2⟩ := digs_step s k hlt hks;rw [hd1] at hrun;obtain ⟨b1, b2⟩ := isDig_bd hd2;have b1' : 48 ≤ (s[k].toNat : Int) := b1;have b2' : (s[k].toNat : Int) ≤ 57 := b2;by_cases hbig : (9223372036854775807 - (n8 s[k] - 48)) / 10 < (v : Int)
   ·have hno := numF_big (hrun.trans (numGo_no hbig hd2));have HN := LH hno;have hbig' : (9223372036854775807 - ((s[k].toNat : Int) - 48)) / 10 < (v : Int) := hbig;clear hrun hd1 hd2 hno hbig b1 b2;go_wp2;rw [HN.out];exact bodyPost_ret (v := .tuple #[.agg #[.int .i64 0, .int .i64 0, .string ⟨#[]⟩, .int .i64 0], .int .i64 0, .int .i64 5]) (by simp [results, Tryz.results80, go_sem]) rfl ⟨rfl, SR.alloc _⟩
   ·obtain ⟨v', e1, e2, e3⟩ := numGo_yes (l := ((bl s).takeWhile isDig).drop (k + 1)) (Int.not_lt.1 hbig) hd2;have HR := LH (hrun.trans e1);have hbig' : (v : Int) ≤ (9223372036854775807 - ((s[k].toNat : Int) - 48)) / 10 := Int.not_lt.1 hbig;have e2' : (v' : Int) = 10 * v + ((s[k].toNat : Int) - 48) := e2;have hb3 : 10 * (v : Int) + ((s[k].toNat : Int) - 48) ≤ 9223372036854775807 := by omega
    have E2 := LH e2';clear hrun hd1 hd2 hbig b1 b2 e1 e2 e2';go_wp2;refine ⟨⟨k + 1, v', by omega, by go_num, by rw [E2.out], e3, HR.out⟩, ?_⟩;simp [intOf]; omega
  ·obtain rfl : k = runF isDig (bl s) := by omega
   rw [digs_end] at hrun;have hsome : numGo 0 ((bl s).takeWhile isDig) = some v := hrun;by_cases hn2 : runF isDig (bl s) < s.size
   ·have hnum := numF_let hsome hn2;have HN := LH hnum;have g := lexletter_any s[runF isDig (bl s)] (w.alloc (.cells #[.int .i64 0, .int .i64 0, .string ⟨#[]⟩, .int .i64 0] 75));clear hrun hsome hnum;cases hl : isLet s[runF isDig (bl s)]
    ·rw [hl] at g HN;clear hl;go_wp2_with (go_at_call 75; refine g.mono ?_; rintro e w' ⟨rfl, rfl⟩);rw [HN.out];exact bodyPost_ret (v := .tuple #[.agg #[.int .i64 2, .int .i64 0, .string ⟨#[]⟩, .int .i64 v], .int .i64 (runF isDig (bl s)), .int .i64 0]) (by simp [results, Tryz.results80, go_sem]) rfl ⟨rfl, SR.alloc _⟩
    ·rw [hl] at g HN;clear hl;go_wp2_with (go_at_call 75; refine g.mono ?_; rintro e w' ⟨rfl, rfl⟩);rw [HN.out];exact bodyPost_ret (v := .tuple #[.agg #[.int .i64 0, .int .i64 0, .string ⟨#[]⟩, .int .i64 0], .int .i64 0, .int .i64 13]) (by simp [results, Tryz.results80, go_sem]) rfl ⟨rfl, SR.alloc _⟩
   ·have hnum := numF_end hsome hn2;have HN := LH hnum;clear hrun hsome hnum;go_wp2;rw [HN.out];exact bodyPost_ret (v := .tuple #[.agg #[.int .i64 2, .int .i64 0, .string ⟨#[]⟩, .int .i64 v], .int .i64 (runF isDig (bl s)), .int .i64 0]) (by simp [results, Tryz.results80, go_sem]) rfl ⟨rfl, SR.alloc _⟩
theorem P_own : ownKnob Tryz.prog.godebug = none := by kernel_rfl
theorem P_laid : laidOutB Tryz.prog = true := by kernel_rfl
theorem T8 : SlT Tryz.prog 51 5 1 1 (.int .u8 0) := ⟨by kernel_rfl, by kernel_rfl, rfl, by omega⟩
theorem own_cap {w : World} {B : Nat} {e : TypeId} {size : Nat} {v : Value} {n : Nat} {xs : List Value} (h : w.ownsRow B e size v n xs) : ∃ A c, v = .slice A n c ∧ n ≤ c ∧ c ≤ maxLen := by
 rcases h.2 with ⟨rfl, rfl⟩ | ⟨g, cap, cur, rfl, _, _, h1, h2, _⟩
 ·exact ⟨none, 0, rfl, by omega, by simp [maxLen]⟩
 ·exact ⟨_, _, rfl, h1, h2⟩
theorem own_ge {w : World} {B : Nat} {e : TypeId} {size : Nat} {v : Value} {n : Nat} {xs : List Value} (h : w.ownsRow B e size v n xs) {k : Nat} (hk : some k = v.ownBlock) : B ≤ k := (h.lt k hk.symm).1
theorem own_by {w : World} {B : Nat} {v : Value} {bs : List UInt8} {e : TypeId} (h : w.ownsRow B e 1 v bs.length (cs8 bs)) : By w (B ≤ ·) v bs := by
 obtain ⟨A, c, rfl, h1, h2⟩ := own_cap h;exact ⟨A, c, rfl, h1, h2, (Sl.of_own h).mono fun k _ hk => own_ge h hk⟩
/-- A constant's row, marked or not, reads as its bytes. -/
theorem By.lit {w : World} {S : Nat → Prop} {g : Nat} {bs : List UInt8} {n c : Nat} {e : TypeId} {fr : Nat × Nat} (h : w.heap[g]? = some (.cells (cs8 bs).toArray e fr)) (hs : S g) (hn : n = bs.length) (hc : n ≤ c) (hm : c ≤ maxLen) :
  By w S (.slice (some ⟨g, 0, none⟩) n c) bs := by
 subst hn;refine ⟨_, c, rfl, hc, hm, by simp [cs8], fun _ => ⟨_, rfl, hs, fun j u hu => ?_⟩⟩;have e0 : (⟨g, 0, none⟩ : Addr).add j = ⟨g, j, none⟩ := by unfold Addr.add; split <;> simp_all
 rw [e0, cell_of_row w g j _ e fr h];simpa using hu
section
variable {P : Program} {t e : TypeId} {size bytes : Nat} {z : Value}
end
/-- A row of bytes that the call owns, from block B on. -/
def OwnB (w : World) (B : Nat) (v : Value) (bs : List UInt8) : Prop := w.ownsRow B 5 1 v bs.length (cs8 bs)
theorem OwnB.nil (w : World) (B : Nat) : OwnB w B (.slice none 0 0) [] := World.ownsRow_nil _ _ _ _
theorem OwnB.form {w : World} {B : Nat} {v : Value} {bs : List UInt8} (h : OwnB w B v bs) : ∃ A c, v = .slice A bs.length c ∧ bs.length ≤ c ∧ c ≤ maxLen := own_cap h
theorem OwnB.by_ {w : World} {B : Nat} {v : Value} {bs : List UInt8} (h : OwnB w B v bs) : By w (B ≤ ·) v bs := own_by h
theorem OwnB.keep {w w' : World} {S : Nat → Prop} {B : Nat} {v : Value} {bs : List UInt8} (h : OwnB w B v bs) (hs : Same S w w') (hS : ∀ k, B ≤ k → k < w.heap.size → S k) : OwnB w' B v bs :=
 own_keep h (hs.mono (S' := fun k => S k) fun _ _ h => h) fun k hk => hS k (own_ge h hk.symm) (h.lt k hk).2
theorem OwnB.lt_ {w : World} {B : Nat} {v : Value} {bs : List UInt8} (h : OwnB w B v bs) {k : Nat} (hk : v.ownBlock = some k) : B ≤ k ∧ k < w.heap.size := h.lt k hk
theorem OwnB.keepAll {w w' : World} {B : Nat} {v : Value} {bs : List UInt8} (h : OwnB w B v bs) (hs : Same (fun _ => True) w w') : OwnB w' B v bs := own_keepAll h hs
theorem Row.by_ {w : World} {g : Nat} {bs : List UInt8} (h : Row w g 5 (cs8 bs)) (hm : bs.length ≤ maxLen) : By w (fun k => k = g) (.slice (some ⟨g, 0, none⟩) bs.length bs.length) bs := by
 refine ⟨_, _, rfl, Nat.le_refl _, hm, ?_⟩;have := h.sl (size := 1) (off := 0) (n := bs.length) (by simp);rw [List.drop_zero, List.take_of_length_le (by simp)] at this;exact this
/-- Bytes behind a row that the call owns. -/
theorem wpList_appB {w : World} {ops : Array Oper} {rest : List Oper} {o : Oper} {a : Act} {Q : Exit → Act → World → Prop} (hgd : o.guard = none) (s x : Operand)
  (ho : o.op = .call { callee := .builtin .append, args := #[s, x], argTypes := #[51, 51] }) {B : Nat} {v u : Value} {bs es : List UInt8} {S : Nat → Prop}
  (hs : a.eval s = v) (hx : a.eval x = u) (hown : OwnB w B v bs) (hu : By w S u es) (hB : B ≤ w.heap.size) (hlen : bs.length + es.length ≤ 100000000)
  (hK : ∀ v' w', OwnB w' B v' (bs ++ es) → Same (fun k => some k ≠ v.ownBlock) w w' → (v'.ownBlock = v.ownBlock ∨ v'.ownBlock = some w.heap.size) → wpList Tryz.prog ops Q rest (a.put o.dst v') w') : wpList Tryz.prog ops Q (o :: rest) a w := by
 obtain ⟨A, c, rfl, hc, hm, hsl⟩ := hu;refine wpList_app T8 w hgd s x ho B v bs.length (cs8 bs) hs hown S A es.length c (cs8 es) hx hsl (oneCell8 _) (by simp only [maxLen]; omega) (by omega) hB ?_;intro v' w' h1 h2 h3;refine hK v' w' ?_ h2 h3;have e : cs8 bs ++ cs8 es = cs8 (bs ++ es) := by simp [cs8]
 unfold OwnB;rw [List.length_append, ← e];exact h1
/-- The same, for a chain: whatever lies below block B stays. -/
theorem wpList_appL {w : World} {ops : Array Oper} {rest : List Oper} {o : Oper} {a : Act} {Q : Exit → Act → World → Prop} (hgd : o.guard = none) (s x : Operand)
  (ho : o.op = .call { callee := .builtin .append, args := #[s, x], argTypes := #[51, 51] }) {B : Nat} {v u : Value} {bs es : List UInt8} {S : Nat → Prop}
  (hs : a.eval s = v) (hx : a.eval x = u) (hown : OwnB w B v bs) (hu : By w S u es) (hB : B ≤ w.heap.size) (hlen : bs.length + es.length ≤ 100000000)
  (hK : ∀ v' w', OwnB w' B v' (bs ++ es) → Same (fun k => k < B) w w' → wpList Tryz.prog ops Q rest (a.put o.dst v') w') : wpList Tryz.prog ops Q (o :: rest) a w :=
 wpList_appB hgd s x ho hs hx hown hu hB hlen fun v' w' h1 h2 _ => hK v' w' h1 (h2.mono fun k _ hk e => by have := (hown.lt_ e.symm).1; omega)
/-- One byte behind a row that the call owns: it was laid into a block of its own. -/
theorem wpList_appB1 {w : World} {ops : Array Oper} {rest : List Oper} {o : Oper} {a : Act} {Q : Exit → Act → World → Prop} (hgd : o.guard = none) (s x : Operand)
  (ho : o.op = .call { callee := .builtin .append, args := #[s, x], argTypes := #[51, 51] }) {B : Nat} {v : Value} {bs : List UInt8} {c : UInt8}
  (hs : a.eval s = v) (hx : a.eval x = .slice (some ⟨w.heap.size, 0, none⟩) 1 1) (hown : OwnB w B v bs) (hB : B ≤ w.heap.size) (hlen : bs.length + 1 ≤ 100000000)
  (hK : ∀ v' w', OwnB w' B v' (bs ++ [c]) → Same (fun k => k < B) w w' → wpList Tryz.prog ops Q rest (a.put o.dst v') w') : wpList Tryz.prog ops Q (o :: rest) a (w.alloc (.cells #[V8 c] 5)) := by
 have h1 : Same (fun _ => True) w (w.alloc (.cells #[V8 c] 5)) := SR.alloc _;refine wpList_appL hgd s x ho hs hx (hown.keepAll h1) (By.lit (S := fun _ => True) (bs := [c]) (fr := (0, 0)) (e := 5) (heap_now rfl) tv rfl (by omega) (by simp [maxLen])) (by simp; omega) (by simpa using hlen) ?_;intro v' w' h2 h3;exact hK v' w' h2 ((h1.mono fun _ _ _ => tv).trans h3)
theorem byte_eq (c d : UInt8) : ((c.toNat : Int) == (d.toNat : Int)) = decide (c = d) := by
 rw [Bool.eq_iff_iff]; simp;rw [← UInt8.toNat_inj]; omega
theorem byte_is {c : UInt8} (d : UInt8) (h : c = d) : ((c.toNat : Int) == (d.toNat : Int)) = true ∧ ((c.toNat : Int) != (d.toNat : Int)) = false := by
 subst h; simp
theorem byte_no {c : UInt8} (d : UInt8) (h : c ≠ d) : ((c.toNat : Int) == (d.toNat : Int)) = false ∧ ((c.toNat : Int) != (d.toNat : Int)) = true := by
 have : ((c.toNat : Int) == (d.toNat : Int)) = false := by rw [byte_eq]; simpa using h
 exact ⟨this, by rw [bne, this]; rfl⟩
theorem text_results {W : World} {k : Nat} {n0 n1 n3 n e : Int} {s2 : ByteArray} (R : Row W k 75 [.int .i64 n0, .int .i64 n1, .string s2, .int .i64 n3]) {tmps : Array Value}
  (h2 : tmps.getD 2 undef = .pointer (some ⟨k, 0, none⟩)) (h3 : tmps.getD 3 undef = .int .i64 n) (h4 : tmps.getD 4 undef = .int .i64 e) :
  (results Tryz.f81 tmps).run Tryz.prog W = .ok (.tuple #[.agg #[.int .i64 n0, .int .i64 n1, .string s2, .int .i64 n3], .int .i64 n, .int .i64 e]) W := by
 have d0 : W.cell? ⟨k, 0, none⟩ = some (.int .i64 n0) := R.cell 0;have d1 : W.cell? ⟨k, 1, none⟩ = some (.int .i64 n1) := R.cell 1;have d2 : W.cell? ⟨k, 2, none⟩ = some (.string s2) := R.cell 2;have d3 : W.cell? ⟨k, 3, none⟩ = some (.int .i64 n3) := R.cell 3;simp at h2 h3 h4;simp [results, Tryz.results81, h2, h3, h4, go_sem, d0, d1, d2, d3]
theorem tok_set4 {w wr : World} {a b c d : Value} {a' b' c' d' : Value} (HR : Row wr w.heap.size 75 [a', b', c', d']) (HS : Same (fun _ => True) w wr) :
  Row ((((wr.setCell ⟨w.heap.size, 0, none⟩ a).setCell ⟨w.heap.size, 1, none⟩ b).setCell ⟨w.heap.size, 2, none⟩ c).setCell ⟨w.heap.size, 3, none⟩ d) w.heap.size 75 [a, b, c, d] ∧
  Same (fun _ => True) w ((((wr.setCell ⟨w.heap.size, 0, none⟩ a).setCell ⟨w.heap.size, 1, none⟩ b).setCell ⟨w.heap.size, 2, none⟩ c).setCell ⟨w.heap.size, 3, none⟩ d) :=
 ⟨(((HR.set_ 0 a).set_ 1 b).set_ 2 c).set_ 3 d, (((HS.setCell (fun h => absurd h (Nat.lt_irrefl _)) _).setCell (fun h => absurd h (Nat.lt_irrefl _)) _).setCell (fun h => absurd h (Nat.lt_irrefl _)) _).setCell (fun h => absurd h (Nat.lt_irrefl _)) _⟩
/-- What text has at a round's head. -/
def TextRel (s : ByteArray) (R : TRes) (w : World) (k : Nat) (acc : List UInt8) (v : Value) (wr : World) : Prop :=
 OwnB wr (w.heap.size + 1) v acc ∧ acc.length ≤ k ∧ R = textGo acc k ((bl s).drop k) ∧
 Row wr w.heap.size 75 [.int .i64 0, .int .i64 0, .string ⟨#[]⟩, .int .i64 0] ∧ Same (fun _ => True) w wr
set_option maxHeartbeats 1000000 in
theorem lextext_any (s : ByteArray) (w : World) (hs : s.size ≤ 100000) (h0 : 0 < s.size) (R : TRes) (hR : R = textGo [] 1 ((bl s).drop 1)) :
  Calls Tryz.prog 81 #[.string s] w (TokP R w) := by
 have hrow0 := Row.new w 75 [.int .i64 0, .int .i64 0, .string ⟨#[]⟩, .int .i64 0];have Hrow0 := LH hrow0;have HR0 := LH hR;clear hrow0 hR;go_enter Tryz.func81, Tryz.ntmps81;go_wp2;go_loopw [5, 6] (fun b i wr => ∃ (k : Nat) (acc : List UInt8), 1 ≤ k ∧ k ≤ s.size ∧ i = .int .i64 k ∧ TextRel s R w k acc b wr) (fun _ i _ => s.size - (intOf i).toNat)
 case atStart => exact ⟨1, [], Nat.le_refl _, h0, rfl, OwnB.nil _ _, by simp, HR0.out, Hrow0.out, SR.alloc _⟩
 case round =>
  obtain ⟨k, acc, hk1, hk, rfl, hown, hacc, hgo, hrow, hS⟩ := hrel;clear HR0 Hrow0;have Hown := LH hown;have Hrow := LH hrow;have HS := LH hS;obtain ⟨A, c, rfl, hc1, hc2⟩ := hown.form;have hcell0 := hrow.cell 0;have hcell1 := hrow.cell 1;have hcell2 := hrow.cell 2;have hcell3 := hrow.cell 3;obtain ⟨hfz0, hfz1, hfz2, hfz3⟩ := FN4 hrow;simp at hcell0 hcell1 hcell2 hcell3;have hsz : w.heap.size < wr.heap.size := hrow.lt;unfold maxLen at hc2;clear hown hrow hS;by_cases hlt : k < s.size
  ·have hdrop := bl_get s k hlt;rw [hdrop] at hgo;clear hdrop;by_cases hq : s[k] = 39
   ·obtain ⟨q1, q2⟩ := byte_is 39 hq;simp only [show (((39 : UInt8).toNat : Nat) : Int) = 39 from rfl] at q1 q2;rw [hq] at hgo;clear hq;by_cases hend : ((bl s).drop (k + 1)).head? ≠ some 39
    ·rw [textGo_q _ _ _ hend] at hgo;have Hgo := LH hgo;clear hgo
     have step : (k + 1 = s.size) ∨ ∃ h : k + 1 < s.size, s[k + 1] ≠ 39 := by
      rcases Nat.lt_or_ge (k + 1) s.size with h | h
      ·right;refine ⟨h, fun e => hend ?_⟩;rw [bl_get s (k + 1) h, e];rfl
      ·left; omega
     clear hend;rcases step with hlast | ⟨hlt2, hne⟩
     ·have e1 : ((k : Int) + 1 == (s.size : Int)) = true := by simp; omega
      have e2 : ((k : Int) + 1 != (s.size : Int)) = false := by simp; omega
      clear hlast;by_cases h64 : 64 < acc.length
      ·go_wp2;rw [Hgo.out, if_pos h64];obtain ⟨r1, r2⟩ := tok_set4 Hrow.out HS.out;exact bodyPost_ret (text_results r1 rfl rfl rfl) rfl ⟨rfl, r2⟩
      ·go_wp2_with (with_reducible refine stopConv rfl ?_);unfold Hid;have hcv := (Hown.out.by_).conv (P := Tryz.prog) 51 9 5 Tryz.underlying51 Tryz.underlying5 Tryz.underlying9;refine wpList_conv rfl rfl rfl hcv ?_;clear hcv;go_wp2;rw [Hgo.out, if_neg h64];obtain ⟨r1, r2⟩ := tok_set4 Hrow.out HS.out;exact bodyPost_ret (text_results r1 rfl rfl rfl) rfl ⟨rfl, r2⟩
     ·obtain ⟨n1, n2⟩ := byte_no 39 hne;simp only [show (((39 : UInt8).toNat : Nat) : Int) = 39 from rfl] at n1 n2;have e1 : ((k : Int) + 1 == (s.size : Int)) = false := by simp; omega
      have e2 : ((k : Int) + 1 != (s.size : Int)) = true := by simp; omega
      clear hne;by_cases h64 : 64 < acc.length
      ·go_wp2;rw [Hgo.out, if_pos h64];obtain ⟨r1, r2⟩ := tok_set4 Hrow.out HS.out;exact bodyPost_ret (text_results r1 rfl rfl rfl) rfl ⟨rfl, r2⟩
      ·go_wp2_with (with_reducible refine stopConv rfl ?_);unfold Hid;have hcv := (Hown.out.by_).conv (P := Tryz.prog) 51 9 5 Tryz.underlying51 Tryz.underlying5 Tryz.underlying9;refine wpList_conv rfl rfl rfl hcv ?_;clear hcv;go_wp2;rw [Hgo.out, if_neg h64];obtain ⟨r1, r2⟩ := tok_set4 Hrow.out HS.out;exact bodyPost_ret (text_results r1 rfl rfl rfl) rfl ⟨rfl, r2⟩
    ·have hh : ((bl s).drop (k + 1)).head? = some 39 := Classical.not_not.1 hend;clear hend
     have hlt2 : k + 1 < s.size := by
      rcases Nat.lt_or_ge (k + 1) s.size with h | h
      ·exact h
      ·rw [List.drop_eq_nil_of_le (by rw [bl_len]; exact h)] at hh; cases hh
     rw [bl_get s (k + 1) hlt2] at hgo hh;have hq2 : s[k + 1] = 39 := by simpa using hh
     rw [hq2, textGo_qq] at hgo;obtain ⟨n1, n2⟩ := byte_is 39 hq2;simp only [show (((39 : UInt8).toNat : Nat) : Int) = 39 from rfl] at n1 n2;have Hgo := LH hgo;have Hq2 := LH hq2;have e1 : ((k : Int) + 1 == (s.size : Int)) = false := by simp; omega
     have e2 : ((k : Int) + 1 != (s.size : Int)) = true := by simp; omega
     clear hgo hh hq2;go_wp2_with (at_builtin; refine stopAt ?_);unfold Hid;refine wpList_appB1 (c := s[k + 1]) rfl (.tmp 37) (.tmp 41) rfl rfl rfl Hown.out (by omega) (by omega) ?_;intro v' w' hown' hS';rw [Hq2.out] at hown';have Hown' := LH hown';have HS' := LH hS';clear hown' hS';go_wp2;go_roundw
     case rel => exact ⟨k + 1 + 1, acc ++ [39], by omega, by omega, by go_num, Hown'.out, by simp; omega, Hgo.out, Hrow.out.keep HS'.out (by omega), HS.out.trans' HS'.out (fun i hi _ => by omega)⟩
     case measure => simp [intOf]; omega
   ·obtain ⟨q1, q2⟩ := byte_no 39 hq;simp only [show (((39 : UInt8).toNat : Nat) : Int) = 39 from rfl] at q1 q2;rw [textGo_c _ _ _ _ hq] at hgo;have Hgo := LH hgo;clear hgo hq;go_wp2_with (at_builtin; refine stopAt ?_);unfold Hid;refine wpList_appB1 (c := s[k]) rfl (.tmp 37) (.tmp 41) rfl rfl rfl Hown.out (by omega) (by omega) ?_;intro v' w' hown' hS';have Hown' := LH hown';have HS' := LH hS';clear hown' hS';go_wp2;go_roundw
    case rel => exact ⟨k + 1, acc ++ [s[k]], by omega, by omega, by go_num, Hown'.out, by simp; omega, Hgo.out, Hrow.out.keep HS'.out (by omega), HS.out.trans' HS'.out (fun i hi _ => by omega)⟩
    case measure => simp [intOf]; omega
  ·rw [List.drop_eq_nil_of_le (by rw [bl_len]; omega)] at hgo;have hgo' : R = tErr 13 := by rw [hgo]; simp [textGo]
   have Hgo := LH hgo';clear hgo hgo';go_wp2;rw [Hgo.out];obtain ⟨r1, r2⟩ := tok_set4 Hrow.out HS.out;exact bodyPost_ret (text_results r1 rfl rfl rfl) rfl ⟨rfl, r2⟩
theorem ext_take (s : ByteArray) (n : Nat) : s.extract 0 n = str ((bl s).take n) := by
 apply ByteArray.ext;rw [ByteArray.data_extract];apply Array.toList_inj.1;show (s.data.extract 0 n).toList = s.data.toList.take n;simp [Array.toList_extract, List.extract_eq_take_drop]
theorem ext_drop (s : ByteArray) (n : Nat) : s.extract n s.size = str ((bl s).drop n) := by
 apply ByteArray.ext;rw [ByteArray.data_extract];apply Array.toList_inj.1;show (s.data.extract n s.data.size).toList = s.data.toList.drop n;rw [Array.toList_extract, List.extract_eq_take_drop, List.take_of_length_le (by simp)]
theorem bl_take1 (s : ByteArray) (h : 0 < s.size) : (bl s).take 1 = [s[0]] := by
 have := bl_get s 0 h;rw [List.drop_zero] at this;rw [this]; rfl
theorem bl_take2 (s : ByteArray) (h : 1 < s.size) : (bl s).take 2 = [s[0], s[1]] := by
 have h0 := bl_get s 0 (by omega);have h1 := bl_get s 1 h;rw [List.drop_zero] at h0;rw [h0, h1]; rfl
theorem signF_eq (s : ByteArray) (h : 0 < s.size) : signF (bl s) = if ∃ h1 : 1 < s.size, isTwo s[0] s[1] = true then ⟨⟨4, (bl s).take 2, 0⟩, 2, 0⟩ else if isSign s[0] then ⟨⟨4, (bl s).take 1, 0⟩, 1, 0⟩ else tErr 13 := by
 have h0 := bl_get s 0 h;rw [List.drop_zero] at h0;by_cases h1 : 1 < s.size
 ·have h2 := bl_get s 1 h1;rw [bl_take1 s h, bl_take2 s h1, h0, h2];simp only [signF];by_cases ht : isTwo s[0] s[1] = true
  ·rw [if_pos ht, if_pos ⟨h1, ht⟩]
  ·have hn : ¬ ∃ h1 : 1 < s.size, isTwo s[0] s[1] = true := fun ⟨_, h⟩ => ht h
   rw [if_neg ht, if_neg hn]
 ·have h2 : (bl s).drop 1 = [] := List.drop_eq_nil_of_le (by rw [bl_len]; omega);rw [bl_take1 s h, h0, h2];simp only [signF];have hn : ¬ ∃ h1 : 1 < s.size, isTwo s[0] s[1] = true := fun ⟨h, _⟩ => h1 h
  rw [if_neg hn]
theorem isSign_eq (c : UInt8) : isSign c = (decide ((c.toNat : Int) = 40) || decide ((c.toNat : Int) = 41) || decide ((c.toNat : Int) = 44) || decide ((c.toNat : Int) = 59) || decide ((c.toNat : Int) = 42) || decide ((c.toNat : Int) = 61) || decide ((c.toNat : Int) = 60) || decide ((c.toNat : Int) = 62) || decide ((c.toNat : Int) = 43) || decide ((c.toNat : Int) = 45) || decide ((c.toNat : Int) = 47) || decide ((c.toNat : Int) = 37)) := by
 have := u8_all (p := fun c => isSign c == (decide ((c.toNat : Int) = 40) || decide ((c.toNat : Int) = 41) || decide ((c.toNat : Int) = 44) || decide ((c.toNat : Int) = 59) || decide ((c.toNat : Int) = 42) || decide ((c.toNat : Int) = 61) || decide ((c.toNat : Int) = 60) || decide ((c.toNat : Int) = 62) || decide ((c.toNat : Int) = 43) || decide ((c.toNat : Int) = 45) || decide ((c.toNat : Int) = 47) || decide ((c.toNat : Int) = 37))) (by decide +kernel) c;simpa using this
set_option maxHeartbeats 1000000 in
theorem lexsign_ne (s : ByteArray) (w : World) (hs : s.size ≤ 100000) (h0 : 0 < s.size) (h1 : 1 < s.size) (ha : s[0] = 60) (hb : s[1] = 62) :
  Calls Tryz.prog 82 #[.string s] w (TokP (signF (bl s)) w) := by
 obtain ⟨a1, -⟩ := byte_is 60 ha;simp only [show (((60 : UInt8).toNat : Nat) : Int) = 60 from rfl] at a1;obtain ⟨b1, -⟩ := byte_is 62 hb;simp only [show (((62 : UInt8).toNat : Nat) : Int) = 62 from rfl] at b1;have K : signF (bl s) = ⟨⟨4, (bl s).take 2, 0⟩, 2, 0⟩ := by rw [signF_eq s h0]; rw [if_pos ⟨h1, by rw [ha, hb]; rfl⟩]
 have HK := LH K;clear K ha hb;go_enter Tryz.func82, Tryz.ntmps82;go_wp2;rw [HK.out];refine bodyPost_ret (v := .tuple #[.agg #[.int .i64 4, .int .i64 0, .string (s.extract 0 2), .int .i64 0], .int .i64 2, .int .i64 0]) (by simp [results, Tryz.results82, go_sem]) rfl ⟨?_, SR.alloc _⟩;rw [ext_take]; rfl
set_option maxHeartbeats 1000000 in
theorem lexsign_le (s : ByteArray) (w : World) (hs : s.size ≤ 100000) (h0 : 0 < s.size) (h1 : 1 < s.size) (ha : s[0] = 60) (hb : s[1] = 61) :
  Calls Tryz.prog 82 #[.string s] w (TokP (signF (bl s)) w) := by
 obtain ⟨a1, -⟩ := byte_is 60 ha;simp only [show (((60 : UInt8).toNat : Nat) : Int) = 60 from rfl] at a1;obtain ⟨b1, -⟩ := byte_is 61 hb;simp only [show (((61 : UInt8).toNat : Nat) : Int) = 61 from rfl] at b1;obtain ⟨b2, -⟩ := byte_no 62 (by rw [hb]; decide : s[1] ≠ 62);simp only [show (((62 : UInt8).toNat : Nat) : Int) = 62 from rfl] at b2;have K : signF (bl s) = ⟨⟨4, (bl s).take 2, 0⟩, 2, 0⟩ := by rw [signF_eq s h0]; rw [if_pos ⟨h1, by rw [ha, hb]; rfl⟩]
 have HK := LH K;clear K ha hb;go_enter Tryz.func82, Tryz.ntmps82;go_wp2;rw [HK.out];refine bodyPost_ret (v := .tuple #[.agg #[.int .i64 4, .int .i64 0, .string (s.extract 0 2), .int .i64 0], .int .i64 2, .int .i64 0]) (by simp [results, Tryz.results82, go_sem]) rfl ⟨?_, SR.alloc _⟩;rw [ext_take]; rfl
set_option maxHeartbeats 1000000 in
theorem lexsign_lt (s : ByteArray) (w : World) (hs : s.size ≤ 100000) (h0 : 0 < s.size) (h1 : 1 < s.size) (ha : s[0] = 60) (hb : s[1] ≠ 62) (hc : s[1] ≠ 61) :
  Calls Tryz.prog 82 #[.string s] w (TokP (signF (bl s)) w) := by
 obtain ⟨a1, -⟩ := byte_is 60 ha;simp only [show (((60 : UInt8).toNat : Nat) : Int) = 60 from rfl] at a1;obtain ⟨b1, -⟩ := byte_no 61 hc;simp only [show (((61 : UInt8).toNat : Nat) : Int) = 61 from rfl] at b1;obtain ⟨b2, -⟩ := byte_no 62 hb;simp only [show (((62 : UInt8).toNat : Nat) : Int) = 62 from rfl] at b2;have K : signF (bl s) = ⟨⟨4, (bl s).take 1, 0⟩, 1, 0⟩ := by rw [signF_eq s h0]; rw [if_neg (fun ⟨_, h⟩ => by rw [ha] at h; simp [isTwo, hb, hc] at h), if_pos (by rw [ha]; rfl)]
 have HK := LH K;clear K ha hb hc;go_enter Tryz.func82, Tryz.ntmps82;go_wp2;rw [HK.out];refine bodyPost_ret (v := .tuple #[.agg #[.int .i64 4, .int .i64 0, .string (s.extract 0 1), .int .i64 0], .int .i64 1, .int .i64 0]) (by simp [results, Tryz.results82, go_sem]) rfl ⟨?_, SR.alloc _⟩;rw [ext_take]; rfl
set_option maxHeartbeats 1000000 in
theorem lexsign_lt1 (s : ByteArray) (w : World) (hs : s.size ≤ 100000) (h0 : 0 < s.size) (h1 : ¬ 1 < s.size) (ha : s[0] = 60) :
  Calls Tryz.prog 82 #[.string s] w (TokP (signF (bl s)) w) := by
 obtain ⟨a1, -⟩ := byte_is 60 ha;simp only [show (((60 : UInt8).toNat : Nat) : Int) = 60 from rfl] at a1;have K : signF (bl s) = ⟨⟨4, (bl s).take 1, 0⟩, 1, 0⟩ := by rw [signF_eq s h0]; rw [if_neg (fun ⟨h, _⟩ => h1 h), if_pos (by rw [ha]; rfl)]
 have HK := LH K;clear K ha;go_enter Tryz.func82, Tryz.ntmps82;go_wp2;rw [HK.out];refine bodyPost_ret (v := .tuple #[.agg #[.int .i64 4, .int .i64 0, .string (s.extract 0 1), .int .i64 0], .int .i64 1, .int .i64 0]) (by simp [results, Tryz.results82, go_sem]) rfl ⟨?_, SR.alloc _⟩;rw [ext_take]; rfl
set_option maxHeartbeats 1000000 in
theorem lexsign_ge (s : ByteArray) (w : World) (hs : s.size ≤ 100000) (h0 : 0 < s.size) (h1 : 1 < s.size) (ha : s[0] = 62) (hb : s[1] = 61) :
  Calls Tryz.prog 82 #[.string s] w (TokP (signF (bl s)) w) := by
 obtain ⟨a0, -⟩ := byte_no 60 (by rw [ha]; decide : s[0] ≠ 60);simp only [show (((60 : UInt8).toNat : Nat) : Int) = 60 from rfl] at a0;obtain ⟨a1, -⟩ := byte_is 62 ha;simp only [show (((62 : UInt8).toNat : Nat) : Int) = 62 from rfl] at a1;obtain ⟨b1, -⟩ := byte_is 61 hb;simp only [show (((61 : UInt8).toNat : Nat) : Int) = 61 from rfl] at b1;have K : signF (bl s) = ⟨⟨4, (bl s).take 2, 0⟩, 2, 0⟩ := by rw [signF_eq s h0]; rw [if_pos ⟨h1, by rw [ha, hb]; rfl⟩]
 have HK := LH K;clear K ha hb;go_enter Tryz.func82, Tryz.ntmps82;go_wp2;rw [HK.out];refine bodyPost_ret (v := .tuple #[.agg #[.int .i64 4, .int .i64 0, .string (s.extract 0 2), .int .i64 0], .int .i64 2, .int .i64 0]) (by simp [results, Tryz.results82, go_sem]) rfl ⟨?_, SR.alloc _⟩;rw [ext_take]; rfl
set_option maxHeartbeats 1000000 in
theorem lexsign_gt (s : ByteArray) (w : World) (hs : s.size ≤ 100000) (h0 : 0 < s.size) (h1 : 1 < s.size) (ha : s[0] = 62) (hb : s[1] ≠ 61) :
  Calls Tryz.prog 82 #[.string s] w (TokP (signF (bl s)) w) := by
 obtain ⟨a0, -⟩ := byte_no 60 (by rw [ha]; decide : s[0] ≠ 60);simp only [show (((60 : UInt8).toNat : Nat) : Int) = 60 from rfl] at a0;obtain ⟨a1, -⟩ := byte_is 62 ha;simp only [show (((62 : UInt8).toNat : Nat) : Int) = 62 from rfl] at a1;obtain ⟨b1, -⟩ := byte_no 61 hb;simp only [show (((61 : UInt8).toNat : Nat) : Int) = 61 from rfl] at b1;have K : signF (bl s) = ⟨⟨4, (bl s).take 1, 0⟩, 1, 0⟩ := by rw [signF_eq s h0]; rw [if_neg (fun ⟨_, h⟩ => by rw [ha] at h; simp [isTwo, hb] at h), if_pos (by rw [ha]; rfl)]
 have HK := LH K;clear K ha hb;go_enter Tryz.func82, Tryz.ntmps82;go_wp2;rw [HK.out];refine bodyPost_ret (v := .tuple #[.agg #[.int .i64 4, .int .i64 0, .string (s.extract 0 1), .int .i64 0], .int .i64 1, .int .i64 0]) (by simp [results, Tryz.results82, go_sem]) rfl ⟨?_, SR.alloc _⟩;rw [ext_take]; rfl
set_option maxHeartbeats 1000000 in
theorem lexsign_gt1 (s : ByteArray) (w : World) (hs : s.size ≤ 100000) (h0 : 0 < s.size) (h1 : ¬ 1 < s.size) (ha : s[0] = 62) :
  Calls Tryz.prog 82 #[.string s] w (TokP (signF (bl s)) w) := by
 obtain ⟨a0, -⟩ := byte_no 60 (by rw [ha]; decide : s[0] ≠ 60);simp only [show (((60 : UInt8).toNat : Nat) : Int) = 60 from rfl] at a0;obtain ⟨a1, -⟩ := byte_is 62 ha;simp only [show (((62 : UInt8).toNat : Nat) : Int) = 62 from rfl] at a1;have K : signF (bl s) = ⟨⟨4, (bl s).take 1, 0⟩, 1, 0⟩ := by rw [signF_eq s h0]; rw [if_neg (fun ⟨h, _⟩ => h1 h), if_pos (by rw [ha]; rfl)]
 have HK := LH K;clear K ha;go_enter Tryz.func82, Tryz.ntmps82;go_wp2;rw [HK.out];refine bodyPost_ret (v := .tuple #[.agg #[.int .i64 4, .int .i64 0, .string (s.extract 0 1), .int .i64 0], .int .i64 1, .int .i64 0]) (by simp [results, Tryz.results82, go_sem]) rfl ⟨?_, SR.alloc _⟩;rw [ext_take]; rfl
set_option maxHeartbeats 2000000 in
theorem lexsign_else (s : ByteArray) (w : World) (hs : s.size ≤ 100000) (h0 : 0 < s.size) (ha : s[0] ≠ 60) (hb : s[0] ≠ 62) :
  Calls Tryz.prog 82 #[.string s] w (TokP (signF (bl s)) w) := by
 have K : signF (bl s) = if isSign s[0] then ⟨⟨4, (bl s).take 1, 0⟩, 1, 0⟩ else tErr 13 := by
  rw [signF_eq s h0, if_neg (fun ⟨_, h⟩ => by simp [isTwo, ha, hb] at h)]
 have HK := LH K;have hI := isSign_eq s[0];have HI := LH hI;obtain ⟨a1, -⟩ := byte_no 60 ha;simp only [show (((60 : UInt8).toNat : Nat) : Int) = 60 from rfl] at a1;obtain ⟨a2, -⟩ := byte_no 62 hb;simp only [show (((62 : UInt8).toNat : Nat) : Int) = 62 from rfl] at a2;have a3 : ¬ ((s[0].toNat : Int) = 60) := by simpa using a1
 have a4 : ¬ ((s[0].toNat : Int) = 62) := by simpa using a2
 clear K hI ha hb;by_cases c1 : (s[0].toNat : Int) = 40 ∨ (s[0].toNat : Int) = 41 ∨ (s[0].toNat : Int) = 44 ∨ (s[0].toNat : Int) = 59 ∨ (s[0].toNat : Int) = 42 ∨ (s[0].toNat : Int) = 61 ∨ (s[0].toNat : Int) = 43 ∨ (s[0].toNat : Int) = 45 ∨ (s[0].toNat : Int) = 47 ∨ (s[0].toNat : Int) = 37
 ·have hsg : isSign s[0] = true := by
   rw [HI.out];rcases c1 with h | h | h | h | h | h | h | h | h | h <;> simp [h]
  have HS := LH hsg;clear hsg HI;rcases c1 with h | h | h | h | h | h | h | h | h | h
  all_goals
   go_enter Tryz.func82, Tryz.ntmps82;go_wp2;rw [HK.out, if_pos HS.out];refine bodyPost_ret (v := .tuple #[.agg #[.int .i64 4, .int .i64 0, .string (s.extract 0 1), .int .i64 0], .int .i64 1, .int .i64 0]) (by simp [results, Tryz.results82, go_sem]) rfl ⟨?_, SR.alloc _⟩;rw [ext_take]; rfl
 ·have hno : isSign s[0] = false := by
   rw [HI.out];simp only [not_or] at c1;simp [c1, a3, a4]
  have HS := LH hno;clear hno HI;simp only [not_or] at c1;obtain ⟨c1, c2, c3, c4, c5, c6, c7, c8, c9, c10⟩ := c1;have d1 : ((s[0].toNat : Int) == 40) = false := by simpa using c1
  have d2 : ((s[0].toNat : Int) == 41) = false := by simpa using c2
  have d3 : ((s[0].toNat : Int) == 44) = false := by simpa using c3
  have d4 : ((s[0].toNat : Int) == 59) = false := by simpa using c4
  have d5 : ((s[0].toNat : Int) == 42) = false := by simpa using c5
  have d6 : ((s[0].toNat : Int) == 61) = false := by simpa using c6
  have d7 : ((s[0].toNat : Int) == 43) = false := by simpa using c7
  have d8 : ((s[0].toNat : Int) == 45) = false := by simpa using c8
  have d9 : ((s[0].toNat : Int) == 47) = false := by simpa using c9
  have d10 : ((s[0].toNat : Int) == 37) = false := by simpa using c10
  clear c1 c2 c3 c4 c5 c6 c7 c8 c9 c10;go_enter Tryz.func82, Tryz.ntmps82;go_wp2;rw [HK.out, HS.out];exact bodyPost_ret (v := .tuple #[.agg #[.int .i64 0, .int .i64 0, .string ⟨#[]⟩, .int .i64 0], .int .i64 0, .int .i64 13]) (by simp [results, Tryz.results82, go_sem]) rfl ⟨rfl, SR.alloc _⟩
theorem lexsign_any (s : ByteArray) (w : World) (hs : s.size ≤ 100000) (h0 : 0 < s.size) :
  Calls Tryz.prog 82 #[.string s] w (TokP (signF (bl s)) w) := by
 by_cases ha : s[0] = 60
 ·by_cases h1 : 1 < s.size
  ·by_cases hb : s[1] = 62
   ·exact lexsign_ne s w hs h0 h1 ha hb
   ·by_cases hc : s[1] = 61
    ·exact lexsign_le s w hs h0 h1 ha hc
    ·exact lexsign_lt s w hs h0 h1 ha hb hc
  ·exact lexsign_lt1 s w hs h0 h1 ha
 ·by_cases hd : s[0] = 62
  ·by_cases h1 : 1 < s.size
   ·by_cases hc : s[1] = 61
    ·exact lexsign_ge s w hs h0 h1 hd hc
    ·exact lexsign_gt s w hs h0 h1 hd hc
   ·exact lexsign_gt1 s w hs h0 h1 hd
  ·exact lexsign_else s w hs h0 ha hd
theorem tokF_eq (s : ByteArray) (h : 0 < s.size) : tokF (bl s) = if isBlank s[0] then ⟨⟨0, [], 0⟩, 1, 0⟩
  else if isLet s[0] then ⟨⟨1, ((bl s).take (runF isWordy (bl s))).map upB, 0⟩, runF isWordy (bl s), 0⟩ else if isDig s[0] then numF (bl s) else if s[0] = 39 then textGo [] 1 ((bl s).drop 1) else signF (bl s) := by
 have h0 := bl_get s 0 h;rw [List.drop_zero] at h0;rw [← take_run]
 conv => lhs; rw [h0]
 simp only [tokF];rw [← h0]
theorem token_results {W : World} {k : Nat} {n0 n1 n3 n e : Int} {s2 : ByteArray} (R : Row W k 75 [.int .i64 n0, .int .i64 n1, .string s2, .int .i64 n3]) {tmps : Array Value}
  (h2 : tmps.getD 2 undef = .pointer (some ⟨k, 0, none⟩)) (h3 : tmps.getD 3 undef = .int .i64 n) (h4 : tmps.getD 4 undef = .int .i64 e) :
  (results Tryz.f35 tmps).run Tryz.prog W = .ok (.tuple #[.agg #[.int .i64 n0, .int .i64 n1, .string s2, .int .i64 n3], .int .i64 n, .int .i64 e]) W := by
 have d0 : W.cell? ⟨k, 0, none⟩ = some (.int .i64 n0) := R.cell 0;have d1 : W.cell? ⟨k, 1, none⟩ = some (.int .i64 n1) := R.cell 1;have d2 : W.cell? ⟨k, 2, none⟩ = some (.string s2) := R.cell 2;have d3 : W.cell? ⟨k, 3, none⟩ = some (.int .i64 n3) := R.cell 3;simp at h2 h3 h4;simp [results, Tryz.results35, h2, h3, h4, go_sem, d0, d1, d2, d3]
/-- The four cells of a token's variable, as the walk asks them. -/
theorem tok_cells {w : World} {g : Nat} {a b c d : Value} (h : Row w g 75 [a, b, c, d]) :
  w.cell? ⟨g, 0, none⟩ = some a ∧ w.cell? ⟨g, 1, none⟩ = some b ∧ w.cell? ⟨g, 2, none⟩ = some c ∧ w.cell? ⟨g, 3, none⟩ = some d ∧
  w.frozen? ⟨g, 0, none⟩ = false ∧ w.frozen? ⟨g, 1, none⟩ = false ∧ w.frozen? ⟨g, 2, none⟩ = false ∧ w.frozen? ⟨g, 3, none⟩ = false :=
 ⟨h.cell 0, h.cell 1, h.cell 2, h.cell 3, h.frozen 0, h.frozen 1, h.frozen 2, h.frozen 3⟩
theorem isBlank_eq (c : UInt8) : isBlank c = (decide ((c.toNat : Int) = 9) || decide ((c.toNat : Int) = 10) || decide ((c.toNat : Int) = 13) || decide ((c.toNat : Int) = 32)) := by
 have := u8_all (p := fun c => isBlank c == (decide ((c.toNat : Int) = 9) || decide ((c.toNat : Int) = 10) || decide ((c.toNat : Int) = 13) || decide ((c.toNat : Int) = 32))) (by decide +kernel) c;simpa using this
set_option maxHeartbeats 1000000 in
theorem lextoken_blank (s : ByteArray) (w : World) (hs : s.size ≤ 100000) (h0 : 0 < s.size) (hb : isBlank s[0] = true) :
  Calls Tryz.prog 35 #[.string s] w (TokP (tokF (bl s)) w) := by
 have K : tokF (bl s) = ⟨⟨0, [], 0⟩, 1, 0⟩ := by rw [tokF_eq s h0, if_pos hb]
 have HK := LH K;have hI := isBlank_eq s[0];rw [hb] at hI;simp at hI;clear K hb;by_cases c9 : (s[0].toNat : Int) = 9
 ·go_enter Tryz.func35, Tryz.ntmps35;go_wp2;rw [HK.out];exact bodyPost_ret (v := .tuple #[.agg #[.int .i64 0, .int .i64 0, .string ⟨#[]⟩, .int .i64 0], .int .i64 1, .int .i64 0]) (by simp [results, Tryz.results35, go_sem]) rfl ⟨rfl, SR.alloc _⟩
 ·have e9 : ((s[0].toNat : Int) == 9) = false := by simpa using c9
  by_cases c10 : (s[0].toNat : Int) = 10
  ·clear c9;clear hI;go_enter Tryz.func35, Tryz.ntmps35;go_wp2;rw [HK.out];exact bodyPost_ret (v := .tuple #[.agg #[.int .i64 0, .int .i64 0, .string ⟨#[]⟩, .int .i64 0], .int .i64 1, .int .i64 0]) (by simp [results, Tryz.results35, go_sem]) rfl ⟨rfl, SR.alloc _⟩
  ·have e10 : ((s[0].toNat : Int) == 10) = false := by simpa using c10
   by_cases c13 : (s[0].toNat : Int) = 13
   ·clear c10;clear hI;go_enter Tryz.func35, Tryz.ntmps35;go_wp2;rw [HK.out];exact bodyPost_ret (v := .tuple #[.agg #[.int .i64 0, .int .i64 0, .string ⟨#[]⟩, .int .i64 0], .int .i64 1, .int .i64 0]) (by simp [results, Tryz.results35, go_sem]) rfl ⟨rfl, SR.alloc _⟩
   ·have e13 : ((s[0].toNat : Int) == 13) = false := by simpa using c13
    have c32 : (s[0].toNat : Int) = 32 := by omega
    clear hI c9 c10 c13;go_enter Tryz.func35, Tryz.ntmps35;go_wp2;rw [HK.out];exact bodyPost_ret (v := .tuple #[.agg #[.int .i64 0, .int .i64 0, .string ⟨#[]⟩, .int .i64 0], .int .i64 1, .int .i64 0]) (by simp [results, Tryz.results35, go_sem]) rfl ⟨rfl, SR.alloc _⟩
theorem noBlank {c : UInt8} (h : isBlank c = false) : ((c.toNat : Int) == 9) = false ∧ ((c.toNat : Int) == 10) = false ∧ ((c.toNat : Int) == 13) = false ∧ ((c.toNat : Int) == 32) = false := by
 rw [isBlank_eq] at h;simp at h ⊢;omega
theorem let_any {c : UInt8} {b : Bool} (h : isLet c = b) (w : World) : Calls Tryz.prog 75 #[.int .u8 (n8 c)] w fun e w' => e = .returned (.bool b) ∧ w = w' := by
 subst h; exact lexletter_any c w
theorem digit_any {c : UInt8} {b : Bool} (h : isDig c = b) (w : World) : Calls Tryz.prog 79 #[.int .u8 (n8 c)] w fun e w' => e = .returned (.bool b) ∧ w = w' := by
 subst h; exact lexdigit_any c w
set_option maxHeartbeats 1000000 in
theorem lextoken_word (s : ByteArray) (w : World) (hs : s.size ≤ 100000) (h0 : 0 < s.size) (hb : isBlank s[0] = false) (hl : isLet s[0] = true) :
  Calls Tryz.prog 35 #[.string s] w (TokP (tokF (bl s)) w) := by
 have K : tokF (bl s) = ⟨⟨1, ((bl s).take (runF isWordy (bl s))).map upB, 0⟩, runF isWordy (bl s), 0⟩ := by rw [tokF_eq s h0, hb, hl]; rfl
 have HK := LH K;obtain ⟨d1, d2, d3, d4⟩ := noBlank hb;have g := let_any hl;have hn := runF_le isWordy (bl s);rw [bl_len] at hn;have hn' : ((runF isWordy (bl s) : Nat) : Int) ≤ (s.size : Int) := by omega
 have hr0 := Row.new w 75 [.int .i64 0, .int .i64 0, .string ⟨#[]⟩, .int .i64 0];have Hr0 := LH hr0;clear K hb hl hr0;go_enter Tryz.func35, Tryz.ntmps35;go_wp2_with (first | (go_at_call 75; refine (g _).mono ?_; rintro e w' ⟨rfl, rfl⟩) | (go_at_call 76; refine (lexrunw_any s _ (by unfold maxLen; omega)).mono ?_; rintro e w' ⟨rfl, rfl⟩) | (go_at_call 78; refine stopAt ?_));unfold Hid;rw [ext_take];refine (lexupper_any _ _ (by rw [show (str ((bl s).take (runF isWordy (bl s)))).size = _ from str_size _, List.length_take]; omega)).mono ?_;rintro e w1 ⟨rfl, hS⟩;have hr1 := Hr0.out.keep hS tv;have hS1 : Same (fun _ => True) w w1 := (SR.alloc _).trans hS;have Hr1 := LH hr1;have HS1 := LH hS1;obtain ⟨a0, a1, a2, a3, f0, f1, f2, f3⟩ := tok_cells hr1;clear hr1 hS1 hS;go_wp2;rw [HK.out];obtain ⟨r1, r2⟩ := tok_set4 Hr1.out HS1.out;refine bodyPost_ret (token_results r1 rfl rfl rfl) rfl ⟨?_, r2⟩;rw [bl_str]; rfl
set_option maxHeartbeats 1000000 in
theorem lextoken_num (s : ByteArray) (w : World) (hs : s.size ≤ 100000) (h0 : 0 < s.size) (hb : isBlank s[0] = false) (hl : isLet s[0] = false) (hd : isDig s[0] = true) :
  Calls Tryz.prog 35 #[.string s] w (TokP (tokF (bl s)) w) := by
 have K : tokF (bl s) = numF (bl s) := by rw [tokF_eq s h0, hb, hl, hd]; rfl
 have HK := LH K;obtain ⟨d1, d2, d3, d4⟩ := noBlank hb;have g := let_any hl;have g2 := digit_any hd;have hr0 := Row.new w 75 [.int .i64 0, .int .i64 0, .string ⟨#[]⟩, .int .i64 0];have Hr0 := LH hr0;clear K hb hl hd hr0;go_enter Tryz.func35, Tryz.ntmps35;go_wp2_with (first | (go_at_call 75; refine (g _).mono ?_; rintro e w' ⟨rfl, rfl⟩) | (go_at_call 79; refine (g2 _).mono ?_; rintro e w' ⟨rfl, rfl⟩) | (go_at_call 80; refine stopAt ?_));unfold Hid;refine (lexnumber_any s _ hs).mono ?_;rintro e w1 ⟨rfl, hS⟩;have hr1 := Hr0.out.keep hS tv;have hS1 : Same (fun _ => True) w w1 := (SR.alloc _).trans hS;have Hr1 := LH hr1;have HS1 := LH hS1;obtain ⟨a0, a1, a2, a3, f0, f1, f2, f3⟩ := tok_cells hr1;clear hr1 hS1 hS;go_wp2;rw [HK.out];obtain ⟨r1, r2⟩ := tok_set4 Hr1.out HS1.out;exact bodyPost_ret (token_results r1 rfl rfl rfl) rfl ⟨rfl, r2⟩
set_option maxHeartbeats 1000000 in
theorem lextoken_text (s : ByteArray) (w : World) (hs : s.size ≤ 100000) (h0 : 0 < s.size) (hb : isBlank s[0] = false) (hl : isLet s[0] = false) (hd : isDig s[0] = false) (hq : s[0] = 39) :
  Calls Tryz.prog 35 #[.string s] w (TokP (tokF (bl s)) w) := by
 obtain ⟨R, hR⟩ : ∃ R, R = textGo [] 1 ((bl s).drop 1) := ⟨_, rfl⟩;have K : tokF (bl s) = R := by rw [hR, tokF_eq s h0, hb, hl, hd, if_neg (by decide), if_neg (by decide), if_neg (by decide), if_pos hq]
 have HK := LH K;obtain ⟨d1, d2, d3, d4⟩ := noBlank hb;obtain ⟨q1, -⟩ := byte_is 39 hq;simp only [show (((39 : UInt8).toNat : Nat) : Int) = 39 from rfl] at q1;have g := let_any hl;have g2 := digit_any hd;have hr0 := Row.new w 75 [.int .i64 0, .int .i64 0, .string ⟨#[]⟩, .int .i64 0];have Hr0 := LH hr0;have HR := LH hR;clear K hb hl hd hr0 hq hR;go_enter Tryz.func35, Tryz.ntmps35;go_wp2_with (first | (go_at_call 75; refine (g _).mono ?_; rintro e w' ⟨rfl, rfl⟩) | (go_at_call 79; refine (g2 _).mono ?_; rintro e w' ⟨rfl, rfl⟩) | (go_at_call 81; refine stopAt ?_));unfold Hid;refine (lextext_any s _ hs h0 R HR.out).mono ?_;rintro e w1 ⟨rfl, hS⟩;have hr1 := Hr0.out.keep hS tv;have hS1 : Same (fun _ => True) w w1 := (SR.alloc _).trans hS;have Hr1 := LH hr1;have HS1 := LH hS1;obtain ⟨a0, a1, a2, a3, f0, f1, f2, f3⟩ := tok_cells hr1;clear hr1 hS1 hS;go_wp2;rw [HK.out];obtain ⟨r1, r2⟩ := tok_set4 Hr1.out HS1.out;exact bodyPost_ret (token_results r1 rfl rfl rfl) rfl ⟨rfl, r2⟩
set_option maxHeartbeats 1000000 in
theorem lextoken_sign (s : ByteArray) (w : World) (hs : s.size ≤ 100000) (h0 : 0 < s.size) (hb : isBlank s[0] = false) (hl : isLet s[0] = false) (hd : isDig s[0] = false) (hq : s[0] ≠ 39) :
  Calls Tryz.prog 35 #[.string s] w (TokP (tokF (bl s)) w) := by
 have K : tokF (bl s) = signF (bl s) := by rw [tokF_eq s h0, hb, hl, hd, if_neg (by decide), if_neg (by decide), if_neg (by decide), if_neg hq]
 have HK := LH K;obtain ⟨d1, d2, d3, d4⟩ := noBlank hb;obtain ⟨q1, -⟩ := byte_no 39 hq;simp only [show (((39 : UInt8).toNat : Nat) : Int) = 39 from rfl] at q1;have g := let_any hl;have g2 := digit_any hd;have hr0 := Row.new w 75 [.int .i64 0, .int .i64 0, .string ⟨#[]⟩, .int .i64 0];have Hr0 := LH hr0;clear K hb hl hd hr0 hq;go_enter Tryz.func35, Tryz.ntmps35;go_wp2_with (first | (go_at_call 75; refine (g _).mono ?_; rintro e w' ⟨rfl, rfl⟩) | (go_at_call 79; refine (g2 _).mono ?_; rintro e w' ⟨rfl, rfl⟩) | (go_at_call 82; refine stopAt ?_));unfold Hid;refine (lexsign_any s _ hs h0).mono ?_;rintro e w1 ⟨rfl, hS⟩;have hr1 := Hr0.out.keep hS tv;have hS1 : Same (fun _ => True) w w1 := (SR.alloc _).trans hS;have Hr1 := LH hr1;have HS1 := LH hS1;obtain ⟨a0, a1, a2, a3, f0, f1, f2, f3⟩ := tok_cells hr1;clear hr1 hS1 hS;go_wp2;rw [HK.out];obtain ⟨r1, r2⟩ := tok_set4 Hr1.out HS1.out;exact bodyPost_ret (token_results r1 rfl rfl rfl) rfl ⟨rfl, r2⟩
theorem lextoken_any (s : ByteArray) (w : World) (hs : s.size ≤ 100000) (h0 : 0 < s.size) :
  Calls Tryz.prog 35 #[.string s] w (TokP (tokF (bl s)) w) := by
 cases hb : isBlank s[0]
 ·cases hl : isLet s[0]
  ·cases hd : isDig s[0]
   ·by_cases hq : s[0] = 39
    ·exact lextoken_text s w hs h0 hb hl hd hq
    ·exact lextoken_sign s w hs h0 hb hl hd hq
   ·exact lextoken_num s w hs h0 hb hl hd
  ·exact lextoken_word s w hs h0 hb hl
 ·exact lextoken_blank s w hs h0 hb
def tokCs (x : Nat × Tok) : List Value := [.int .i64 x.2.kind, .int .i64 x.1, .string (str x.2.s), .int .i64 x.2.n]
theorem TT : SlT Tryz.prog 53 75 4 40 (.agg #[.int .i64 0, .int .i64 0, .string ⟨#[]⟩, .int .i64 0]) := ⟨by kernel_rfl, by kernel_rfl, rfl, by omega⟩
/-- A row of tokens that the call owns. -/
def OwnT (w : World) (B : Nat) (v : Value) (l : List (Nat × Tok)) : Prop := w.ownsRow B 75 4 v l.length (l.flatMap tokCs)
theorem OwnT.nil (w : World) (B : Nat) : OwnT w B (.slice none 0 0) [] := World.ownsRow_nil _ _ _ _
theorem OwnT.keep {w w' : World} {S : Nat → Prop} {B : Nat} {v : Value} {l : List (Nat × Tok)} (h : OwnT w B v l) (hs : Same S w w') (hS : ∀ k, B ≤ k → k < w.heap.size → S k) : OwnT w' B v l :=
 own_keep h (hs.mono (S' := fun k => S k) fun _ _ h => h) fun k hk => hS k (own_ge h hk.symm) (h.lt k hk).2
theorem OwnT.keepAll {w w' : World} {B : Nat} {v : Value} {l : List (Nat × Tok)} (h : OwnT w B v l) (hs : Same (fun _ => True) w w') : OwnT w' B v l := own_keepAll h hs
theorem OwnT.form {w : World} {B : Nat} {v : Value} {l : List (Nat × Tok)} (h : OwnT w B v l) : ∃ A c, v = .slice A l.length c ∧ l.length ≤ c ∧ c ≤ maxLen := own_cap h
theorem tokCs_one (x : Nat × Tok) : ∀ u ∈ tokCs x, u.oneCell' = true := by
 intro u hu;simp only [tokCs, List.mem_cons, List.not_mem_nil, or_false] at hu;rcases hu with rfl | rfl | rfl | rfl <;> rfl
/-- One token behind a row that the call owns: its cells were laid into a block of their own. -/
theorem wpList_appT1 {w : World} {ops : Array Oper} {rest : List Oper} {o : Oper} {a : Act} {Q : Exit → Act → World → Prop} (hgd : o.guard = none) (s x : Operand)
  (ho : o.op = .call { callee := .builtin .append, args := #[s, x], argTypes := #[53, 53] }) {B : Nat} {v : Value} {l : List (Nat × Tok)} {c : Nat × Tok}
  (hs : a.eval s = v) {g : Nat} (hx : a.eval x = .slice (some ⟨g, 0, none⟩) 1 1) (hg : g = w.heap.size) (hown : OwnT w B v l) (hB : B ≤ w.heap.size) (hlen : l.length + 1 ≤ 1000000)
  (hK : ∀ v' w', OwnT w' B v' (l ++ [c]) → Same (fun k => k < B) w w' → wpList Tryz.prog ops Q rest (a.put o.dst v') w') : wpList Tryz.prog ops Q (o :: rest) a (w.alloc (.cells (tokCs c).toArray 75)) := by
 subst hg;have h1 : Same (fun _ => True) w (w.alloc (.cells (tokCs c).toArray 75)) := SR.alloc _;have hrow := Row.new w 75 (tokCs c);have hsl := hrow.sl (size := 4) (off := 0) (n := 1) (by simp [tokCs]);rw [List.drop_zero, List.take_of_length_le (by simp [tokCs])] at hsl;refine wpList_app TT _ hgd s x ho B v l.length (l.flatMap tokCs) hs (hown.keepAll h1) _ _ 1 1 (tokCs c) hx hsl (tokCs_one c) (by simp only [maxLen]; omega) (by omega) (by simp; omega) ?_;intro v' w' h2 h3 h4;refine hK v' w' ?_ ((h1.mono fun _ _ _ => tv).trans (h3.mono fun k _ hk e => by have := (hown.keepAll h1 : OwnT _ B v l).lt k e.symm; omega));unfold OwnT;rw [List.length_append, List.flatMap_append];simpa using h2
def LexPost (r : Nat × List (Nat × Tok)) (w : World) (e : Ending) (w' : World) : Prop :=
 ∃ v, e = .returned (.tuple #[v, .int .i64 r.1]) ∧ OwnT w' w.heap.size v r.2 ∧ Same (fun _ => True) w w'
/-- What Lex's loop holds. -/
def LexRel (s : ByteArray) (r : Nat × List (Nat × Tok)) (w : World) (k : Nat) (l : List (Nat × Tok)) (v : Value) (wr : World) : Prop :=
 OwnT wr w.heap.size v l ∧ l.length ≤ k ∧ r = thenL (0, l) (lexFrom k ((bl s).drop k)) ∧ Same (fun _ => True) w wr
theorem thenL_nil (y : Nat × List (Nat × Tok)) (i : Nat) (s : List UInt8) (h : y = lexFrom i s) : thenL (0, []) y = y := by
 subst h;unfold thenL;exact (lexFrom_pair i s).symm
theorem thenL_thenL (a b : List (Nat × Tok)) (y : Nat × List (Nat × Tok)) : thenL (0, a) (thenL (0, b) y) = thenL (0, a ++ b) y := by
 unfold thenL;by_cases h : y.1 = 0
 ·simp [h]
 ·simp [h]
theorem lexFrom_then {i : Nat} {s : List UInt8} (hs : s ≠ []) (h : (tokF s).e = 0) :
  lexFrom i s = thenL (0, if (tokF s).t.kind = 0 then [] else [(i, (tokF s).t)]) (lexFrom (i + (tokF s).n) (s.drop (tokF s).n)) := lexFrom_go hs h
set_option maxHeartbeats 1000000 in
theorem lexlex_any (s : ByteArray) (w : World) (hs : s.size ≤ 100000) : Calls Tryz.prog 22 #[.string s] w (LexPost (lexF (bl s)) w) := by
 have hbl := bl_len s;by_cases hlong : 2000 < s.size
 ·have K : lexF (bl s) = (3, []) := by unfold lexF; rw [if_pos (by rw [hbl]; exact hlong)]
  have HK := LH K;clear K hbl;go_enter Tryz.func22, Tryz.ntmps22;go_wp2;go_ret2;rw [HK.out];exact ⟨_, rfl, OwnT.nil _ _, Same.refl _ _⟩
 ·obtain ⟨r, hr⟩ : ∃ r, r = lexFrom 0 (bl s) := ⟨_, rfl⟩;have K : lexF (bl s) = if r.1 = 0 then (0, r.2 ++ [(s.size, ⟨0, [], 0⟩)]) else (r.1, []) := by unfold lexF; rw [if_neg (by rw [hbl]; exact hlong), hr, hbl]
  have hr0 : r = thenL (0, []) (lexFrom 0 ((bl s).drop 0)) := by rw [List.drop_zero, ← hr]; exact (thenL_nil r 0 (bl s) hr).symm
  have HK := LH K;have Hr0 := LH hr0;have Hbl := LH hbl;clear K hr hr0 hbl;go_enter Tryz.func22, Tryz.ntmps22;go_wp2;go_loopw [4, 5, 6, 7, 8] (fun v i _ _ _ wr => ∃ (k : Nat) (l : List (Nat × Tok)), k ≤ s.size ∧ i = .int .i64 k ∧ LexRel s r w k l v wr) (fun _ i _ _ _ _ => s.size - (intOf i).toNat)
  case atStart => exact ⟨0, [], Nat.zero_le _, rfl, OwnT.nil _ _, by simp, Hr0.out, Same.refl _ _⟩
  case round =>
   obtain ⟨k, l, hk, rfl, hown, hl, hgo, hS⟩ := hrel;clear Hr0;have Hown := LH hown;have HS := LH hS;obtain ⟨A, c, rfl, hc1, hc2⟩ := hown.form;have hsz : w.heap.size ≤ wr.heap.size := hS.size;unfold maxLen at hc2;clear hown hS;by_cases hlt : k < s.size
   ·have hne : (bl s).drop k ≠ [] := by
     intro e;have := congrArg List.length e;rw [List.length_drop, Hbl.out] at this;simp at this;omega
    obtain ⟨R, hR⟩ : ∃ R, R = tokF ((bl s).drop k) := ⟨_, rfl⟩;have HR := LH hR;go_wp2_with (go_at_call 35; refine stopAt ?_);unfold Hid;rw [ext_drop];refine (lextoken_any _ _ (by rw [show (str ((bl s).drop k)).size = _ from str_size _, List.length_drop, Hbl.out]; omega) (by rw [show (str ((bl s).drop k)).size = _ from str_size _, List.length_drop, Hbl.out]; omega)).mono ?_;rw [bl_str, ← hR];rintro e w1 ⟨rfl, hS1⟩;by_cases he : R.e = 0
    ·have hpos := tokF_pos (s := (bl s).drop k) (by rw [← hR]; exact he);rw [← hR, List.length_drop, Hbl.out] at hpos;have hstep := lexFrom_then (i := k) hne (by rw [← hR]; exact he);rw [← hR, List.drop_drop] at hstep;rw [hstep, thenL_thenL] at hgo;have Hgo := LH hgo;have HS1 := LH hS1;have e1 : ((R.e : Int) != 0) = false := by rw [he]; rfl
     clear hgo hstep hS1 hR hne he;by_cases hkind : R.t.kind = 0
     ·have e2 : ((R.t.kind : Int) != 0) = false := by rw [hkind]; rfl
      have Hk := LH hkind;clear hkind;go_wp2;go_roundw
      case rel =>
       refine ⟨k + R.n, l, by omega, by go_num, (Hown.out.keepAll HS1.out).keepAll (SR.alloc _), by omega, ?_, (HS.out.trans HS1.out).alloc _⟩;have := Hgo.out;rw [if_pos Hk.out, List.append_nil] at this;exact this
      case measure => simp [intOf]; omega
     ·have e2 : ((R.t.kind : Int) != 0) = true := by simp; exact hkind
      have Hk := LH hkind;clear hkind;go_wp2_with (at_builtin; refine stopAt ?_);unfold Hid;refine wpList_appT1 (c := (k, R.t)) rfl (.tmp 32) (.tmp 34) rfl rfl rfl (by simp) ((Hown.out.keepAll HS1.out).keepAll (SR.alloc _)) (by have := HS1.out.size; simp; omega) (by omega) ?_;intro v' w2 hown2 hS2;have Hown2 := LH hown2;have HS2 := LH hS2;clear hown2 hS2;go_wp2;go_roundw
      case rel =>
       refine ⟨k + R.n, l ++ [(k, R.t)], by omega, by go_num, Hown2.out, by simp; omega, ?_, ((HS.out.trans HS1.out).alloc _).trans' HS2.out (fun i hi _ => by omega)⟩;have := Hgo.out;rw [if_neg Hk.out] at this;exact this
      case measure => simp [intOf]; omega
    ·have e1 : ((R.e : Int) != 0) = true := by simp; exact he
     have hstep := lexFrom_err (i := k) hne (by rw [← hR]; exact he);rw [← hR] at hstep;rw [hstep] at hgo;have hr1 : r = (R.e, []) := by rw [hgo]; unfold thenL; rw [if_neg he]
     have Hr1 := LH hr1;have He := LH he;have HS1 := LH hS1;clear hgo hstep hS1 hR hne hr1 he;go_wp2;go_ret2;rw [HK.out, Hr1.out, if_neg He.out];exact ⟨_, rfl, OwnT.nil _ _, (HS.out.trans HS1.out).alloc _⟩
   ·obtain rfl : k = s.size := by omega
    rw [List.drop_eq_nil_of_le (by rw [Hbl.out]; exact Nat.le_refl _), lexFrom_nil] at hgo;have hr1 : r = (0, l) := by rw [hgo]; simp [thenL]
    have Hr1 := LH hr1;clear hgo hr1;go_wp2_with (at_builtin; refine stopAt ?_);unfold Hid;refine wpList_appT1 (c := (s.size, ⟨0, [], 0⟩)) rfl (.tmp 39) (.tmp 43) rfl rfl rfl (by simp) Hown.out hsz (by omega) ?_;intro v' w2 hown2 hS2;have Hown2 := LH hown2;have HS2 := LH hS2;clear hown2 hS2;go_wp2;go_ret2;rw [HK.out, Hr1.out];exact ⟨_, rfl, Hown2.out, HS.out.trans' HS2.out (fun i hi _ => by omega)⟩
end Go.Proofs.YtdfojghhpdkpfaaGreatDoor
namespace Go.Proofs
open Go.Shelf
def Tryz.lays156_ren : Go.Shelf.Ren := ⟨fun | 156 => 26 | 165 => 50 | 166 => 51 | 169 => 52 | 240 => 92 | 241 => 93 | 276 => 116 | 277 => 117 | n => n, fun | 31 => 66 | 9 => 9 | 3 => 3 | 4 => 4 | 0 => 0 | 20 => 20 | 72 => 93 | 76 => 97 | 70 => 91 | 37 => 51 | 75 => 96 | 127 => 121 | 164 => 140 | 5 => 5 | 80 => 99 | n => n, fun | n => n⟩
theorem Tryz.lays156 : Go.Proofs.Lays.n156 Tryz.prog Tryz.lays156_ren := {
 mixed := by kernel_rfl
 f156 := Tryz.func26.trans (congrArg some (by kernel_rfl))
 f165 := Tryz.func50.trans (congrArg some (by kernel_rfl))
 f166 := Tryz.func51.trans (congrArg some (by kernel_rfl))
 f169 := Tryz.func52.trans (congrArg some (by kernel_rfl))
 f240 := Tryz.func92.trans (congrArg some (by kernel_rfl))
 f241 := Tryz.func93.trans (congrArg some (by kernel_rfl))
 f276 := Tryz.func116.trans (congrArg some (by kernel_rfl))
 f277 := Tryz.func117.trans (congrArg some (by kernel_rfl))
 t0 := Tryz.underlying0
 a0 := Tryz.isAgg0
 z0 := Tryz.sizeOf0
 v0 := Tryz.zeroValue0
 t3 := Tryz.underlying3
 a3 := Tryz.isAgg3
 z3 := Tryz.sizeOf3
 v3 := Tryz.zeroValue3
 t4 := Tryz.underlying4
 a4 := Tryz.isAgg4
 z4 := Tryz.sizeOf4
 v4 := Tryz.zeroValue4
 t9 := Tryz.underlying9
 a9 := Tryz.isAgg9
 z9 := Tryz.sizeOf9
 v9 := Tryz.zeroValue9
 t20 := Tryz.underlying20
 a20 := Tryz.isAgg20
 z20 := Tryz.sizeOf20
 v20 := Tryz.zeroValue20
 t31 := Tryz.underlying66
 a31 := Tryz.isAgg66
 z31 := Tryz.sizeOf66
 v31 := Tryz.zeroValue66
 t37 := Tryz.underlying51
 a37 := Tryz.isAgg51
 z37 := Tryz.sizeOf51
 v37 := Tryz.zeroValue51
 t70 := Tryz.underlying91
 a70 := Tryz.isAgg91
 z70 := Tryz.sizeOf91
 v70 := Tryz.zeroValue91
 t72 := Tryz.underlying93
 a72 := Tryz.isAgg93
 z72 := Tryz.sizeOf93
 v72 := Tryz.zeroValue93
 t75 := Tryz.underlying96
 a75 := Tryz.isAgg96
 z75 := Tryz.sizeOf96
 v75 := Tryz.zeroValue96
 t76 := Tryz.underlying97
 a76 := Tryz.isAgg97
 z76 := Tryz.sizeOf97
 v76 := Tryz.zeroValue97
 t127 := Tryz.underlying121
 a127 := Tryz.isAgg121
 z127 := Tryz.sizeOf121
 v127 := Tryz.zeroValue121
 t164 := Tryz.underlying140
 a164 := Tryz.isAgg140
 z164 := Tryz.sizeOf140
 v164 := Tryz.zeroValue140 }
theorem Tryz.Builder_Extra_156 : Builder.Extra Tryz.prog Tryz.lays156_ren := {
 sizeBuilder := by kernel_rfl
 liesBuilder := by kernel_rfl
 t5 := Tryz.underlying5
 a5 := Tryz.isAgg5
 z5 := Tryz.sizeOf5
 v5 := Tryz.zeroValue5
 infoByte := by kernel_rfl
 cellsByte := by kernel_rfl
 sizeByte := by kernel_rfl
 neB5 := by decide }
open Go.RowKit in
/-- No element: the empty string; the world is as it was. (Whatever the slice's address and capacity: a nil slice too.) (LAID: no walk: one application.) -/
theorem Tryz.strings_Join_none (a : Option Addr) (c : Nat) (sep : ByteArray) (w : World) :
  Calls Tryz.prog 26 #[.slice a 0 c, .string sep] w fun e w' => e = .returned (.string ⟨#[]⟩) ∧ w' = w := Any.strings_Join_none Tryz.lays156 Tryz.Builder_Extra_156 a c sep w
open Go.RowKit in
/-- strings.Join: "Join concatenates the elements of its first argument to create a single string. The separator string sep is placed between elements in the resulting string.": HOWEVER MANY ELEMENTS. Below the heap's end the world is as it was. (LAID: no walk: one application.) -/
theorem Tryz.strings_Join (bk o c : Nat) (xs : List ByteArray) (sep : ByteArray) (w : World) (hcells : ∀ (j : Nat) x, xs[j]? = some x → w.cell? ⟨bk, o + j, none⟩ = some (.string x)) (hbk : bk < w.heap.size) (hN : xs.length ≤ 140737488355328) (hcap : xs.length ≤ c) (hlen : (Lib.join (xs.map (·.data.toList)) sep.data.toList).length ≤ 140737488355328) :
  Calls Tryz.prog 26 #[.slice (some ⟨bk, o, none⟩) xs.length c, .string sep] w fun e w' => e = .returned (.string ⟨(Lib.join (xs.map (·.data.toList)) sep.data.toList).toArray⟩) ∧ Below w.heap.size w w' := Any.strings_Join Tryz.lays156 Tryz.Builder_Extra_156 bk o c xs sep w hcells hbk hN hcap hlen
def Tryz.laysM173_ren : Go.Shelf.Ren := ⟨fun | 173 => 27 | 246 => 53 | 283 => 94 | 284 => 95 | 285 => 96 | 286 => 97 | 129 => 119 | 317 => 118 | 318 => 120 | 319 => 121 | 320 => 122 | 337 => 131 | 338 => 132 | n => n, fun | 2 => 2 | 3 => 3 | 9 => 9 | 4 => 4 | 171 => 123 | 0 => 0 | 53 => 101 | 37 => 51 | 5 => 5 | 173 => 126 | 212 => 145 | 51 => 146 | 20 => 20 | 213 => 147 | 46 => 149 | 232 => 163 | 233 => 164 | n => n, fun | 17 => 0 | 18 => 2 | 19 => 3 | n => n⟩
theorem Tryz.laysM173 : Go.Proofs.LaysM.n173 Tryz.prog Tryz.laysM173_ren := {
 mixed := by kernel_rfl
 f129 := Tryz.func119.trans (congrArg some (by kernel_rfl))
 f173 := Tryz.func27.trans (congrArg some (by kernel_rfl))
 f246 := Tryz.func53.trans (congrArg some (by kernel_rfl))
 f283 := Tryz.func94.trans (congrArg some (by kernel_rfl))
 f284 := Tryz.func95.trans (congrArg some (by kernel_rfl))
 f285 := Tryz.func96.trans (congrArg some (by kernel_rfl))
 f286 := Tryz.func97.trans (congrArg some (by kernel_rfl))
 f317 := Tryz.func118.trans (congrArg some (by kernel_rfl))
 f318 := Tryz.func120.trans (congrArg some (by kernel_rfl))
 f319 := Tryz.func121.trans (congrArg some (by kernel_rfl))
 f320 := Tryz.func122.trans (congrArg some (by kernel_rfl))
 f337 := Tryz.func131.trans (congrArg some (by kernel_rfl))
 f338 := Tryz.func132.trans (congrArg some (by kernel_rfl))
 t0 := Tryz.underlying0
 a0 := Tryz.isAgg0
 z0 := Tryz.sizeOf0
 v0 := Tryz.zeroValue0
 t2 := Tryz.underlying2
 a2 := Tryz.isAgg2
 z2 := Tryz.sizeOf2
 v2 := Tryz.zeroValue2
 t3 := Tryz.underlying3
 a3 := Tryz.isAgg3
 z3 := Tryz.sizeOf3
 v3 := Tryz.zeroValue3
 t4 := Tryz.underlying4
 a4 := Tryz.isAgg4
 z4 := Tryz.sizeOf4
 v4 := Tryz.zeroValue4
 t5 := Tryz.underlying5
 a5 := Tryz.isAgg5
 z5 := Tryz.sizeOf5
 v5 := Tryz.zeroValue5
 t9 := Tryz.underlying9
 a9 := Tryz.isAgg9
 z9 := Tryz.sizeOf9
 v9 := Tryz.zeroValue9
 t20 := Tryz.underlying20
 a20 := Tryz.isAgg20
 z20 := Tryz.sizeOf20
 v20 := Tryz.zeroValue20
 t37 := Tryz.underlying51
 a37 := Tryz.isAgg51
 z37 := Tryz.sizeOf51
 v37 := Tryz.zeroValue51
 t46 := Tryz.underlying149
 a46 := Tryz.isAgg149
 z46 := Tryz.sizeOf149
 v46 := Tryz.zeroValue149
 t51 := Tryz.underlying146
 a51 := Tryz.isAgg146
 z51 := Tryz.sizeOf146
 v51 := Tryz.zeroValue146
 t53 := Tryz.underlying101
 a53 := Tryz.isAgg101
 z53 := Tryz.sizeOf101
 v53 := Tryz.zeroValue101
 t171 := Tryz.underlying123
 a171 := Tryz.isAgg123
 z171 := Tryz.sizeOf123
 v171 := Tryz.zeroValue123
 t173 := Tryz.underlying126
 a173 := Tryz.isAgg126
 z173 := Tryz.sizeOf126
 v173 := Tryz.zeroValue126
 t212 := Tryz.underlying145
 a212 := Tryz.isAgg145
 z212 := Tryz.sizeOf145
 v212 := Tryz.zeroValue145
 t213 := Tryz.underlying147
 a213 := Tryz.isAgg147
 z213 := Tryz.sizeOf147
 t232 := Tryz.underlying163
 a232 := Tryz.isAgg163
 z232 := Tryz.sizeOf163
 v232 := Tryz.zeroValue163
 t233 := Tryz.underlying164
 a233 := Tryz.isAgg164
 z233 := Tryz.sizeOf164
 v233 := Tryz.zeroValue164
 g17 := by kernel_rfl
 g18 := by kernel_rfl
 g19 := by kernel_rfl
 i0 := by kernel_rfl
 i2 := by kernel_rfl
 i3 := by kernel_rfl
 i4 := by kernel_rfl
 i5 := by kernel_rfl
 i9 := by kernel_rfl
 i20 := by kernel_rfl
 i37 := by kernel_rfl
 i46 := by kernel_rfl
 i51 := by kernel_rfl
 i53 := by kernel_rfl
 i171 := by kernel_rfl
 i173 := by kernel_rfl
 i212 := by kernel_rfl
 i232 := by kernel_rfl
 i233 := by kernel_rfl
 m17 := by kernel_rfl
 m18 := by kernel_rfl
 m19 := by kernel_rfl }
open Go.RowKit Go.Sort Go.Lib in
/-- strconv.FormatInt: "FormatInt returns the string representation of i in the given base": AT BASE 10: i's decimal numeral, for every int64. (LAID: no walk: one application.) -/
theorem Tryz.strconv_FormatInt_10 (n : Int) (h0 : -9223372036854775808 ≤ n) (h1 : n ≤ 9223372036854775807) (w : World) (htab : Lib.TabIs Tryz.prog w "internal/strconv.uint64pow10" .u64 Lib.pow10Tab) :
  Calls Tryz.prog 27 #[.int .i64 n, .int .i64 10] w fun e w' => e = .returned (.string ⟨(Lib.itoa n).toArray⟩) ∧ ∃ k os, w' = grow (w.drewN k) os := Any.strconv_FormatInt_10 Tryz.laysM173 n h0 h1 w htab
def Tryz.lays144_ren : Go.Shelf.Ren := ⟨fun | 144 => 99 | 143 => 124 | 219 => 133 | 217 => 138 | 225 => 139 | 224 => 140 | 267 => 141 | 266 => 147 | 314 => 148 | n => n, fun | 9 => 9 | 4 => 4 | 3 => 3 | 5 => 5 | 46 => 149 | 146 => 167 | 51 => 146 | n => n, fun | 1 => 1 | n => n⟩
theorem Tryz.lays144 : Go.Proofs.Lays.n144 Tryz.prog Tryz.lays144_ren := {
 mixed := by kernel_rfl
 f143 := Tryz.func124.trans (congrArg some (by kernel_rfl))
 f144 := Tryz.func99.trans (congrArg some (by kernel_rfl))
 f217 := Tryz.func138.trans (congrArg some (by kernel_rfl))
 f219 := Tryz.func133.trans (congrArg some (by kernel_rfl))
 f224 := Tryz.func140.trans (congrArg some (by kernel_rfl))
 f225 := Tryz.func139.trans (congrArg some (by kernel_rfl))
 f266 := Tryz.func147.trans (congrArg some (by kernel_rfl))
 f267 := Tryz.func141.trans (congrArg some (by kernel_rfl))
 f314 := Tryz.func148.trans (congrArg some (by kernel_rfl))
 t3 := Tryz.underlying3
 a3 := Tryz.isAgg3
 z3 := Tryz.sizeOf3
 v3 := Tryz.zeroValue3
 t4 := Tryz.underlying4
 a4 := Tryz.isAgg4
 z4 := Tryz.sizeOf4
 v4 := Tryz.zeroValue4
 t5 := Tryz.underlying5
 a5 := Tryz.isAgg5
 z5 := Tryz.sizeOf5
 v5 := Tryz.zeroValue5
 t9 := Tryz.underlying9
 a9 := Tryz.isAgg9
 z9 := Tryz.sizeOf9
 v9 := Tryz.zeroValue9
 t46 := Tryz.underlying149
 a46 := Tryz.isAgg149
 z46 := Tryz.sizeOf149
 v46 := Tryz.zeroValue149
 t51 := Tryz.underlying146
 a51 := Tryz.isAgg146
 z51 := Tryz.sizeOf146
 v51 := Tryz.zeroValue146
 t146 := Tryz.underlying167
 a146 := Tryz.isAgg167
 z146 := Tryz.sizeOf167
 v146 := Tryz.zeroValue167
 g1 := by kernel_rfl }
open Go.RowKit Go.Lib in
/-- strings.Contains: "Contains reports whether substr is within s.": IT RETURNS 'Lib.contains s substr'; the world is as it was. (LAID: no walk: one application.) -/
theorem Tryz.strings_Contains (s sub : ByteArray) (m : Int) (w : World) (hs : s.size < 4294967281) (hm : w.cell? ⟨1, 0, none⟩ = some (.int .i64 m)) :
  Calls Tryz.prog 99 #[.string s, .string sub] w fun e w' => e = .returned (.bool (Lib.contains s.data.toList sub.data.toList)) ∧ w' = w := Any.strings_Contains Tryz.lays144 s sub m w hs hm
def Tryz.laysM219_ren : Go.Shelf.Ren := ⟨fun | 219 => 133 | 217 => 138 | 225 => 139 | 224 => 140 | 267 => 141 | 266 => 147 | 314 => 148 | n => n, fun | 9 => 9 | 3 => 3 | 4 => 4 | 5 => 5 | 46 => 149 | 146 => 167 | 51 => 146 | n => n, fun | 1 => 1 | n => n⟩
theorem Tryz.laysM219 : Go.Proofs.LaysM.n219 Tryz.prog Tryz.laysM219_ren := {
 mixed := by kernel_rfl
 f217 := Tryz.func138.trans (congrArg some (by kernel_rfl))
 f219 := Tryz.func133.trans (congrArg some (by kernel_rfl))
 f224 := Tryz.func140.trans (congrArg some (by kernel_rfl))
 f225 := Tryz.func139.trans (congrArg some (by kernel_rfl))
 f266 := Tryz.func147.trans (congrArg some (by kernel_rfl))
 f267 := Tryz.func141.trans (congrArg some (by kernel_rfl))
 f314 := Tryz.func148.trans (congrArg some (by kernel_rfl))
 t3 := Tryz.underlying3
 a3 := Tryz.isAgg3
 z3 := Tryz.sizeOf3
 v3 := Tryz.zeroValue3
 t4 := Tryz.underlying4
 a4 := Tryz.isAgg4
 z4 := Tryz.sizeOf4
 v4 := Tryz.zeroValue4
 t5 := Tryz.underlying5
 a5 := Tryz.isAgg5
 z5 := Tryz.sizeOf5
 v5 := Tryz.zeroValue5
 t9 := Tryz.underlying9
 a9 := Tryz.isAgg9
 z9 := Tryz.sizeOf9
 v9 := Tryz.zeroValue9
 t46 := Tryz.underlying149
 a46 := Tryz.isAgg149
 z46 := Tryz.sizeOf149
 v46 := Tryz.zeroValue149
 t51 := Tryz.underlying146
 a51 := Tryz.isAgg146
 z51 := Tryz.sizeOf146
 v51 := Tryz.zeroValue146
 t146 := Tryz.underlying167
 a146 := Tryz.isAgg167
 z146 := Tryz.sizeOf167
 v146 := Tryz.zeroValue167
 g1 := by kernel_rfl
 i3 := by kernel_rfl
 i4 := by kernel_rfl
 i5 := by kernel_rfl
 i9 := by kernel_rfl
 i46 := by kernel_rfl
 i51 := by kernel_rfl
 i146 := by kernel_rfl
 m1 := by kernel_rfl
 s1_3 := fun w h => Go.Proofs.cell_of_shapedOpen_int (zero := #[.int .i64 0]) (t := 3) h (of_decide_eq_true (by kernel_rfl)) (by kernel_rfl) rfl (by kernel_rfl) (by kernel_rfl) Tryz.underlying3 }
def Tryz.lays155_ren : Go.Shelf.Ren := ⟨fun | 155 => 115 | 154 => 130 | 138 => 136 | 165 => 50 | 143 => 124 | 166 => 51 | 197 => 137 | 169 => 52 | 195 => 144 | 218 => 145 | 240 => 92 | 241 => 93 | 219 => 133 | 260 => 146 | 276 => 116 | 277 => 117 | 217 => 138 | 225 => 139 | 224 => 140 | 267 => 141 | 266 => 147 | 314 => 148 | n => n, fun | 9 => 9 | 3 => 3 | 4 => 4 | 72 => 93 | 0 => 0 | 76 => 97 | 105 => 161 | 21 => 21 | 5 => 5 | 70 => 91 | 20 => 20 | 37 => 51 | 75 => 96 | 127 => 121 | 164 => 140 | 46 => 149 | 119 => 170 | 139 => 173 | 138 => 172 | 146 => 167 | 51 => 146 | 80 => 99 | n => n, fun | 1 => 1 | 3 => 4 | 4 => 5 | n => n⟩
theorem Tryz.lays155 : Go.Proofs.Lays.n155 Tryz.prog Tryz.lays155_ren := {
 mixed := by kernel_rfl
 f138 := Tryz.func136.trans (congrArg some (by kernel_rfl))
 f143 := Tryz.func124.trans (congrArg some (by kernel_rfl))
 f154 := Tryz.func130.trans (congrArg some (by kernel_rfl))
 f155 := Tryz.func115.trans (congrArg some (by kernel_rfl))
 f165 := Tryz.func50.trans (congrArg some (by kernel_rfl))
 f166 := Tryz.func51.trans (congrArg some (by kernel_rfl))
 f169 := Tryz.func52.trans (congrArg some (by kernel_rfl))
 f195 := Tryz.func144.trans (congrArg some (by kernel_rfl))
 f197 := Tryz.func137.trans (congrArg some (by kernel_rfl))
 f217 := Tryz.func138.trans (congrArg some (by kernel_rfl))
 f218 := Tryz.func145.trans (congrArg some (by kernel_rfl))
 f219 := Tryz.func133.trans (congrArg some (by kernel_rfl))
 f224 := Tryz.func140.trans (congrArg some (by kernel_rfl))
 f225 := Tryz.func139.trans (congrArg some (by kernel_rfl))
 f240 := Tryz.func92.trans (congrArg some (by kernel_rfl))
 f241 := Tryz.func93.trans (congrArg some (by kernel_rfl))
 f260 := Tryz.func146.trans (congrArg some (by kernel_rfl))
 f266 := Tryz.func147.trans (congrArg some (by kernel_rfl))
 f267 := Tryz.func141.trans (congrArg some (by kernel_rfl))
 f276 := Tryz.func116.trans (congrArg some (by kernel_rfl))
 f277 := Tryz.func117.trans (congrArg some (by kernel_rfl))
 f314 := Tryz.func148.trans (congrArg some (by kernel_rfl))
 t0 := Tryz.underlying0
 a0 := Tryz.isAgg0
 z0 := Tryz.sizeOf0
 v0 := Tryz.zeroValue0
 t3 := Tryz.underlying3
 a3 := Tryz.isAgg3
 z3 := Tryz.sizeOf3
 v3 := Tryz.zeroValue3
 t4 := Tryz.underlying4
 a4 := Tryz.isAgg4
 z4 := Tryz.sizeOf4
 v4 := Tryz.zeroValue4
 t5 := Tryz.underlying5
 a5 := Tryz.isAgg5
 z5 := Tryz.sizeOf5
 v5 := Tryz.zeroValue5
 t9 := Tryz.underlying9
 a9 := Tryz.isAgg9
 z9 := Tryz.sizeOf9
 v9 := Tryz.zeroValue9
 t20 := Tryz.underlying20
 a20 := Tryz.isAgg20
 z20 := Tryz.sizeOf20
 v20 := Tryz.zeroValue20
 t21 := Tryz.underlying21
 a21 := Tryz.isAgg21
 z21 := Tryz.sizeOf21
 v21 := Tryz.zeroValue21
 t37 := Tryz.underlying51
 a37 := Tryz.isAgg51
 z37 := Tryz.sizeOf51
 v37 := Tryz.zeroValue51
 t46 := Tryz.underlying149
 a46 := Tryz.isAgg149
 z46 := Tryz.sizeOf149
 v46 := Tryz.zeroValue149
 t51 := Tryz.underlying146
 a51 := Tryz.isAgg146
 z51 := Tryz.sizeOf146
 v51 := Tryz.zeroValue146
 t70 := Tryz.underlying91
 a70 := Tryz.isAgg91
 z70 := Tryz.sizeOf91
 v70 := Tryz.zeroValue91
 t72 := Tryz.underlying93
 a72 := Tryz.isAgg93
 z72 := Tryz.sizeOf93
 v72 := Tryz.zeroValue93
 t75 := Tryz.underlying96
 a75 := Tryz.isAgg96
 z75 := Tryz.sizeOf96
 v75 := Tryz.zeroValue96
 t76 := Tryz.underlying97
 a76 := Tryz.isAgg97
 z76 := Tryz.sizeOf97
 v76 := Tryz.zeroValue97
 t105 := Tryz.underlying161
 a105 := Tryz.isAgg161
 z105 := Tryz.sizeOf161
 v105 := Tryz.zeroValue161
 t119 := Tryz.underlying170
 a119 := Tryz.isAgg170
 z119 := Tryz.sizeOf170
 t127 := Tryz.underlying121
 a127 := Tryz.isAgg121
 z127 := Tryz.sizeOf121
 v127 := Tryz.zeroValue121
 t138 := Tryz.underlying172
 a138 := Tryz.isAgg172
 z138 := Tryz.sizeOf172
 v138 := Tryz.zeroValue172
 t139 := Tryz.underlying173
 a139 := Tryz.isAgg173
 z139 := Tryz.sizeOf173
 v139 := Tryz.zeroValue173
 t146 := Tryz.underlying167
 a146 := Tryz.isAgg167
 z146 := Tryz.sizeOf167
 v146 := Tryz.zeroValue167
 t164 := Tryz.underlying140
 a164 := Tryz.isAgg140
 z164 := Tryz.sizeOf140
 v164 := Tryz.zeroValue140
 g1 := by kernel_rfl
 g3 := by kernel_rfl
 g4 := by kernel_rfl }
theorem Tryz.Builder_Extra_155 : Builder.Extra Tryz.prog Tryz.lays155_ren := {
 sizeBuilder := by kernel_rfl
 liesBuilder := by kernel_rfl
 t5 := Tryz.underlying5
 a5 := Tryz.isAgg5
 z5 := Tryz.sizeOf5
 v5 := Tryz.zeroValue5
 infoByte := by kernel_rfl
 cellsByte := by kernel_rfl
 sizeByte := by kernel_rfl
 neB5 := by decide }
open Go.RowKit Go.Lib in
/-- strings.ReplaceAll: "ReplaceAll returns a copy of the string s with all non-overlapping instances of old replaced by new.": AT AN old THAT IS NOT EMPTY: 'Lib.replaceAll s old new'. (LAID: no walk: one application.) -/
theorem Tryz.strings_ReplaceAll (s old new : ByteArray) (m : Int) (w : World) (hs : s.size < 4294967281) (hm : w.cell? ⟨1, 0, none⟩ = some (.int .i64 m)) (h1 : 1 ≤ old.size) (hlen : s.size + Lib.countB s old * new.size ≤ 140737488355328) :
  Calls Tryz.prog 115 #[.string s, .string old, .string new] w fun e w' =>
   e = .returned (.string ⟨(Lib.replaceAll s.data.toList old.data.toList new.data.toList).toArray⟩) ∧ Below w.heap.size w w' := Any.strings_ReplaceAll Tryz.lays155 Tryz.Builder_Extra_155 s old new m w hs hm h1 hlen
end Go.Proofs
namespace Go.Proofs.YtdfojghhpdkpfaaGreatDoor
open Go.RowKit Go.ChangeShapes Go.WideShapes Go.ChangeAt
theorem str_app (a b : List UInt8) : str a ++ str b = str (a ++ b) := by
 apply ByteArray.ext;simp [str]
theorem ext_one (s : ByteArray) (k : Nat) (h : k < s.size) : s.extract k (k + 1) = str [s[k]] := by
 apply ByteArray.ext;rw [ByteArray.data_extract];apply Array.toList_inj.1;show (s.data.extract k (k + 1)).toList = [s[k]];rw [Array.toList_extract, List.extract_eq_take_drop];have := bl_get s k h;show ((bl s).drop k).take (k + 1 - k) = _;rw [this];simp
/-- What the library's variable holds: some number. -/
def Mx (w : World) : Prop := ∃ m : Int, w.cell? ⟨1, 0, none⟩ = some (.int .i64 m)
theorem Mx.keep {w w' : World} (h : Mx w) (hs : Same (fun _ => True) w w') : Mx w' := by
 obtain ⟨m, hm⟩ := h;exact ⟨m, hs.cell (p := ⟨1, 0, none⟩) tv hm⟩
theorem contains_any (c : ByteArray) (s : List UInt8) (w : World) (hc : bl c = joinW resW) (hs : noBl s = true) (hm : Mx w) :
  Calls Tryz.prog 99 #[.string c, .string (str (32 :: s ++ [32]))] w fun e w' => e = .returned (.bool (resW.contains s)) ∧ w = w' := by
 obtain ⟨m, hm⟩ := hm;refine (Tryz.strings_Contains c (str (32 :: s ++ [32])) m w ?_ hm).mono ?_
 ·have : c.size = (bl c).length := (bl_len c).symm;rw [this, hc];decide +kernel
 ·rintro e w' ⟨rfl, rfl⟩;refine ⟨?_, rfl⟩;have := contains_words s hs resW resW_all;rw [← hc] at this;exact ret_bool this
theorem isEmpty_of (s : ByteArray) (h : 0 < s.size) : s.toList.isEmpty = false ∧ ¬ s.toList = [] := by
 rw [ByteArray.toList_eq];have := bl_get s 0 h;rw [List.drop_zero] at this;show (bl s).isEmpty = false ∧ ¬ bl s = [];rw [this];simp
set_option maxHeartbeats 1000000 in
theorem lexword_any (s : ByteArray) (w : World) (hs : s.size ≤ 100000) (hm : Mx w) :
  Calls Tryz.prog 57 #[.string s] w fun e w' => e = .returned (.bool (wordF (bl s))) ∧ Same (fun _ => True) w w' := by
 have hbl := bl_len s;have Hbl := LH hbl;by_cases h0 : s.size = 0
 ·have hnil : bl s = [] := List.eq_nil_of_length_eq_zero (by omega);have K : wordF (bl s) = false := by rw [hnil]; rfl
  have HK := LH K;have e1 : s.toList = [] := by rw [ByteArray.toList_eq]; exact hnil
  have e2 : s.toList.isEmpty = true := by rw [e1]; rfl
  have e3 : s = ⟨#[]⟩ := by rw [← str_bl s, hnil]; rfl
  clear K hbl hnil h0;go_enter Tryz.func57, Tryz.ntmps57;go_wp2;go_ret;exact ⟨by rw [HK.out]; rfl, Same.refl _ _⟩
 ·have hpos : 0 < s.size := by omega
  obtain ⟨e1, e2⟩ := isEmpty_of s hpos;have hc0 := bl_get s 0 hpos;rw [List.drop_zero] at hc0;by_cases h16 : 16 < s.size
  ·have K : wordF (bl s) = false := by unfold wordF; rw [decide_eq_false (by omega)]; rfl
   have HK := LH K;clear K hbl hc0 h0;go_enter Tryz.func57, Tryz.ntmps57;go_wp2;go_ret;exact ⟨by rw [HK.out]; rfl, Same.refl _ _⟩
  ·have h16' : (bl s).length ≤ 16 := by omega
   have d16 : decide ((16 : Int) < s.size) = false := decide_eq_false (by omega);cases hd : isDig s[0]
   ·have g := digit_any hd
    have K1 : wordF (bl s) = ((bl s).all isWordy && decide ((bl s).map upB = bl s) && !resW.contains (bl s)) := by
     unfold wordF wordOk;rw [decide_eq_true h16']
     conv => lhs; rw [hc0]
     simp only [hd, Bool.not_false, Bool.true_and];rw [← hc0]
    have HK1 := LH K1;by_cases hall : (bl s).all isWordy = true
    ·have hrun := (runF_all isWordy (bl s)).2 hall;rw [hbl] at hrun;have Hall := LH hall;by_cases hup : (bl s).map upB = bl s
     ·obtain ⟨B, hB⟩ : ∃ B, resW.contains (bl s) = B := ⟨_, rfl⟩;have K : wordF (bl s) = !B := by rw [K1, hall, decide_eq_true hup, hB]; rfl
      have HB := LH hB;have HK := LH K;have Hup := LH hup
      have a1 : ∀ w, (Op.stringOp .add ⟨#[32]⟩ s).run Tryz.prog w = .ok (.string (str (32 :: bl s))) w := fun w => by
       have : (⟨#[32]⟩ : ByteArray) ++ s = str (32 :: bl s) := str_app [32] (bl s);rw [← this];exact run_string_add_sum _ _ _ (by show 1 + s.size ≤ _; omega)
      have a2 : ∀ w, (Op.stringOp .add (str (32 :: bl s)) ⟨#[32]⟩).run Tryz.prog w = .ok (.string (str (32 :: bl s ++ [32]))) w := fun w => by
       have : str (32 :: bl s) ++ (⟨#[32]⟩ : ByteArray) = str (32 :: bl s ++ [32]) := str_app (32 :: bl s) [32];rw [← this];exact run_string_add_sum _ _ _ (by rw [str_size, List.length_cons, Hbl.out]; show s.size + 1 + 1 ≤ _; omega)
      have Hr := LH hrun;clear K K1 hbl hc0 h0 hd hall hrun hup hB;go_enter Tryz.func57, Tryz.ntmps57;go_wp2_with (first | (go_at_call 79; refine (g _).mono ?_; rintro e w' ⟨rfl, rfl⟩) | (go_at_call 76; refine (lexrunw_any s _ (by unfold maxLen; omega)).mono ?_; rw [Hr.out]; rintro e w' ⟨rfl, rfl⟩) | (go_at_call 78; refine (lexupper_any s _ hs).mono ?_; rw [Hup.out, str_bl]; rintro e w1 ⟨rfl, hS⟩) | (go_at_call 99; refine stopAt ?_));unfold Hid;refine (contains_any _ (bl s) _ (by decide +kernel) (wordy_noBl Hall.out) (hm.keep hS)).mono ?_;rw [HB.out];rintro e w' ⟨rfl, rfl⟩;go_wp2;go_ret;exact ⟨by rw [HK.out]; rfl, hS⟩
     ·have K : wordF (bl s) = false := by rw [K1, hall, decide_eq_false hup]; rfl
      have HK := LH K
      have hne : ¬ (str ((bl s).map upB)).toList = s.toList := by
       rw [ByteArray.toList_eq, ByteArray.toList_eq];exact hup
      have hne2 : ((str ((bl s).map upB)).toList == s.toList) = false := by simpa using hne
      have hne3 : ((bl s).map upB == s.toList) = false := by rw [ByteArray.toList_eq]; exact beq_false_of_ne hup
      have Hr := LH hrun;clear K K1 hbl hc0 h0 hd hall hrun hup;go_enter Tryz.func57, Tryz.ntmps57;go_wp2_with (first | (go_at_call 79; refine (g _).mono ?_; rintro e w' ⟨rfl, rfl⟩) | (go_at_call 76; refine (lexrunw_any s _ (by unfold maxLen; omega)).mono ?_; rw [Hr.out]; rintro e w' ⟨rfl, rfl⟩) | (go_at_call 78; refine (lexupper_any s _ hs).mono ?_; rintro e w1 ⟨rfl, hS⟩));go_ret;exact ⟨by rw [HK.out]; rfl, hS⟩
    ·have K : wordF (bl s) = false := by rw [K1, Bool.eq_false_iff.2 hall]; rfl
     have HK := LH K
     have hrun : runF isWordy (bl s) < s.size := by
      have h1 := runF_le isWordy (bl s);have h2 : runF isWordy (bl s) ≠ s.size := fun e => hall ((runF_all isWordy (bl s)).1 (by rw [e, hbl]))
      rw [hbl] at h1;omega
     clear K K1 hbl hc0 h0 hd hall;go_enter Tryz.func57, Tryz.ntmps57;go_wp2_with (first | (go_at_call 79; refine (g _).mono ?_; rintro e w' ⟨rfl, rfl⟩) | (go_at_call 76; refine (lexrunw_any s _ (by unfold maxLen; omega)).mono ?_; rintro e w' ⟨rfl, rfl⟩));go_ret;exact ⟨by rw [HK.out]; rfl, Same.refl _ _⟩
   ·have g := digit_any hd
    have K : wordF (bl s) = false := by
     unfold wordF wordOk
     conv => lhs; rw [hc0]
     simp [hd]
    have HK := LH K;clear K hbl hc0 h0 hd;go_enter Tryz.func57, Tryz.ntmps57;go_wp2_with (first | (go_at_call 79; refine (g _).mono ?_; rintro e w' ⟨rfl, rfl⟩));go_ret;exact ⟨by rw [HK.out]; rfl, Same.refl _ _⟩
set_option maxHeartbeats 1000000 in
theorem lexword_all (s : ByteArray) (w : World) (hm : Mx w) {b : Bool} (hb : wordF (bl s) = b) :
  Calls Tryz.prog 57 #[.string s] w fun e w' => e = .returned (.bool b) ∧ Same (fun _ => True) w w' := by
 subst hb;by_cases h16 : s.size ≤ 16
 ·exact lexword_any s w (by omega) hm
 ·have hbl := bl_len s;obtain ⟨e1, e2⟩ := isEmpty_of s (by omega);have K : wordF (bl s) = false := by unfold wordF; rw [decide_eq_false (by omega)]; rfl
  have HK := LH K;have d1 : decide ((16 : Int) < s.size) = true := decide_eq_true (by omega);clear K hbl;go_enter Tryz.func57, Tryz.ntmps57;go_wp2;go_ret;exact ⟨by rw [HK.out]; rfl, Same.refl _ _⟩
end Go.Proofs.YtdfojghhpdkpfaaGreatDoor
namespace Go.Proofs.YtdfojghhpdkpfaaGreatDoor
open Go.RowKit
theorem Mx.keepS {w w' : World} {S : Nat → Prop} (h : Mx w) (hs : Same S w w') (h1 : S 1) : Mx w' := by
 obtain ⟨m, hm⟩ := h;exact ⟨m, hs.cell (p := ⟨1, 0, none⟩) h1 hm⟩
theorem Mx.lt {w : World} (h : Mx w) : 1 < w.heap.size := by
 obtain ⟨m, hm⟩ := h;exact World.block_lt_of_cell? w _ hm
/-- What a parse that goes wrong panics with. -/
def failV (pl e : Nat) : Value := .iface 57 (.agg #[.int .i64 pl, .int .i64 e])
/-- The parser at block g, ahead of these tokens, so many rules open. -/
structure PS (w : World) (g t : Nat) (l : List PT) (o : Nat) : Prop where
 end_ : EndOk l
 few : o ≤ 201
 short : l.length ≤ 1000000
 mx : Mx w
 ne : 1 ≠ g
 tne : t ≠ g
 tmx : t ≠ 1
 mem : ∃ off c, Row w g 60 [.slice (some ⟨t, off, none⟩) l.length c, .int .i64 o] ∧ l.length ≤ c ∧ c ≤ maxLen ∧ ∀ j u, (l.flatMap tokCs)[j]? = some u → w.cell? ⟨t, off + j, none⟩ = some u
section
variable {w w' : World} {g t o : Nat} {l : List PT}
theorem PS.lt (h : PS w g t l o) : g < w.heap.size := by
 obtain ⟨off, c, h1, _⟩ := h.mem;exact h1.lt
theorem PS.keep (h : PS w g t l o) (hs : Same (fun _ => True) w w') : PS w' g t l o := by
 obtain ⟨h0, h1, h8, hx, hn, gT, off, c, h2, h3, h4, h5, h6⟩ := h;exact ⟨h0, h1, h8, hx.keep hs, hn, gT, off, c, h2, h3.keep hs tv, h4, h5, fun j u hu => hs.cell tv (h6 j u hu)⟩
/-- What the parser's walks read. -/
theorem PS.open_ (h : PS w g t l o) : ∃ off c, Row w g 60 [.slice (some ⟨t, off, none⟩) l.length c, .int .i64 o] ∧ l.length ≤ c ∧ c ≤ maxLen ∧ 0 < l.length ∧
  w.cell? ⟨t, off, none⟩ = some (.int .i64 (hdT l).2.kind) ∧ w.cell? ⟨t, off + 1, none⟩ = some (.int .i64 (hdT l).1) ∧ w.cell? ⟨t, off + 2, none⟩ = some (.string (str (hdT l).2.s)) ∧ w.cell? ⟨t, off + 3, none⟩ = some (.int .i64 (hdT l).2.n) := by
 obtain ⟨off, c, h3, h4, h5, h6⟩ := h.mem;refine ⟨off, c, h3, h4, h5, h.end_.pos, ?_⟩;have hne := h.end_.ne;cases l with
 | nil => exact absurd rfl hne
 | cons x l => exact ⟨h6 0 _ rfl, h6 1 _ rfl, h6 2 _ rfl, h6 3 _ rfl⟩
theorem hdT_drop (h : 0 < l.length) : l = hdT l :: l.tail := by
 cases l with
 | nil => simp at h
 | cons x l => rfl
/-- One token further. -/
theorem PS.step (h : PS w g t l o) (hk : (hdT l).2.kind ≠ 0) : ∃ off c, Row w g 60 [.slice (some ⟨t, off, none⟩) l.length c, .int .i64 o] ∧ l.length ≤ c ∧ c ≤ maxLen ∧ (1 : Int) ≤ (l.length : Int) ∧ (1 : Int) ≤ (c : Int) ∧ ¬ c = 1 ∧
  w.cell? ⟨t, off, none⟩ = some (.int .i64 (hdT l).2.kind) ∧ w.cell? ⟨t, off + 1, none⟩ = some (.int .i64 (hdT l).1) ∧ w.cell? ⟨t, off + 2, none⟩ = some (.string (str (hdT l).2.s)) ∧ w.cell? ⟨t, off + 3, none⟩ = some (.int .i64 (hdT l).2.n) ∧
  PS (w.setCell ⟨g, 0, none⟩ (.slice (some ⟨t, off + 4, none⟩) (l.length - 1) (c - 1))) g t l.tail o := by
 obtain ⟨h1, h2⟩ := h.end_.tail hk;have hp := h1.pos;obtain ⟨off, c, hrow, hc, hm, ht⟩ := h.mem;have hne := h.tne;have hs : Same (fun q => q ≠ g) w (w.setCell ⟨g, 0, none⟩ (.slice (some ⟨t, off + 4, none⟩) (l.length - 1) (c - 1))) := SR.setCell (fun _ h => h rfl) _;have h0 := h.end_.ne
 have hcell : ∀ j, j < 4 → w.cell? ⟨t, off + j, none⟩ = (tokCs (hdT l))[j]? := fun j hj => by
  have e := hdT_drop h.end_.pos;have hj2 : j < (tokCs (hdT l)).length := hj;rw [List.getElem?_eq_getElem hj2];exact ht j _ (by rw [e, List.flatMap_cons, List.getElem?_append_left hj2, ← e, List.getElem?_eq_getElem hj2])
 refine ⟨off, c, hrow, hc, hm, by omega, by omega, by omega, hcell 0 (by omega), hcell 1 (by omega), hcell 2 (by omega), hcell 3 (by omega), h1, h.few, by have := h.short; omega, h.mx.keepS hs h.ne, h.ne, h.tne, h.tmx, off + 4, c - 1, ?_, by omega, by omega, fun j u hu => hs.cell hne ?_⟩
 ·have := hrow.set_ 0 (.slice (some ⟨t, off + 4, none⟩) (l.length - 1) (c - 1));rw [show l.tail.length = l.length - 1 from by omega];exact this
 ·have e := hdT_drop h.end_.pos;have := ht (4 + j) u (by rw [e, List.flatMap_cons, List.getElem?_append_right (by simp [tokCs])]; simpa [tokCs] using hu);rw [← Nat.add_assoc] at this;exact this
/-- Blocks that are neither the parser's nor the tokens'. -/
theorem PS.keepB (h : PS w g t l o) {S : Nat → Prop} (hs : Same S w w') (h1 : S g) (h2 : S t) (h3 : S 1) : PS w' g t l o := by
 obtain ⟨off, c, hrow, hc, hm, ht⟩ := h.mem;exact ⟨h.end_, h.few, h.short, h.mx.keepS hs h3, h.ne, h.tne, h.tmx, off, c, hrow.keep hs h1, hc, hm, fun j u hu => hs.cell h2 (ht j u hu)⟩
theorem PS.lt3 (h : PS w g t l o) : g < w.heap.size ∧ t < w.heap.size ∧ 1 < w.heap.size := by
 obtain ⟨off, c, hrow, hc, hm, ht⟩ := h.mem;refine ⟨hrow.lt, ?_, h.mx.lt⟩;have e := hdT_drop h.end_.pos;have := ht 0 (.int .i64 (hdT l).2.kind) (by rw [e]; rfl);exact World.block_lt_of_cell? w _ this
/-- Another number of open rules. -/
theorem PS.opened (h : PS w g t l o) {o' : Nat} (ho : o' ≤ 201) {v : Value} (hv : v = .int .i64 (o' : Int)) : PS (w.setCell ⟨g, 1, none⟩ v) g t l o' := by
 subst hv;have hs : Same (fun q => q ≠ g) w (w.setCell ⟨g, 1, none⟩ (.int .i64 (o' : Int))) := SR.setCell (fun _ h => h rfl) _;obtain ⟨off, c, hrow, hc, hm, ht⟩ := h.mem;have hne := h.tne;exact ⟨h.end_, ho, h.short, h.mx.keepS hs h.ne, h.ne, h.tne, h.tmx, off, c, hrow.set_ 1 _, hc, hm, fun j u hu => hs.cell hne (ht j u hu)⟩
end
set_option maxHeartbeats 1000000 in
theorem is_any (g t : Nat) (l : List PT) (o : Nat) (s : List UInt8) (w : World) (h : PS w g t l o) : Calls Tryz.prog 86 #[.pointer (some ⟨g, 0, none⟩), .string (str s)] w fun e w' => e = .returned (.bool (isT s l)) ∧ Same (fun _ => True) w w' := by
 obtain ⟨off, c, hrow, hc, hm, hpos, t0, t1, t2, t3⟩ := h.open_;unfold maxLen at hm;have b0 := hrow.cell 0;simp only [List.getElem?_cons_zero] at b0;have hl : (0 : Int) < (l.length : Int) := by omega
 clear hrow;have Hi : Hid (isT s l = ((decide ((hdT l).2.kind = 1) || decide ((hdT l).2.kind = 4)) && decide ((hdT l).2.s = s))) := LH rfl;clear h hpos;generalize (hdT l).2.kind = kd at *;generalize (hdT l).2.s = sd at *;generalize (hdT l).2.n = nd at *;generalize (hdT l).1 = pd at *;have key : (kd = 1 ∧ ¬ kd = 4) ∨ (kd = 4 ∧ ¬ kd = 1) ∨ (¬ kd = 1 ∧ ¬ kd = 4) := by omega
 rcases key with ⟨h1, h4⟩ | ⟨h4, h1⟩ | ⟨h1, h4⟩ <;> by_cases hs : sd = s
 all_goals
  try have e1 : ((kd : Int) == 1) = false := by simpa using fun h : (kd : Int) = 1 => h1 (by omega)
  try have e4 : ((kd : Int) == 4) = false := by simpa using fun h : (kd : Int) = 4 => h4 (by omega)
  have H1 := LH h1;have H4 := LH h4;have Hs := LH hs;go_enter Tryz.func86, Tryz.ntmps86;go_wp2;go_ret;refine ⟨ret_bool ?_, Same.refl _ _⟩;rw [Hi.out];simp [H1.out, H4.out, Hs.out]
def TakeP (g t : Nat) (l : List PT) (o : Nat) (b : Bool) (w : World) (e : Ending) (w' : World) : Prop := e = .returned (.bool b) ∧ PS w' g t (if b then l.tail else l) o ∧ Same (fun q => q ≠ g) w w'
set_option maxHeartbeats 1000000 in
theorem take_any (g t : Nat) (l : List PT) (o : Nat) (s : List UInt8) (w : World) (h : PS w g t l o) : Calls Tryz.prog 37 #[.pointer (some ⟨g, 0, none⟩), .string (str s)] w (TakeP g t l o (isT s l) w) := by
 have hi := is_any g t l o s w h;have H := LH h;cases hb : isT s l
 ·rw [hb] at hi;clear hb h;go_enter Tryz.func37, Tryz.ntmps37;go_wp2_with (go_at_call 86; refine stopAt ?_);unfold Hid;refine hi.mono ?_;rintro e w1 ⟨rfl, hS⟩;go_wp2;go_ret;exact ⟨rfl, H.out.keep hS, hS.mono fun _ _ _ => tv⟩
 ·rw [hb] at hi;have Hk := LH (isT_kind hb);clear hb h;go_enter Tryz.func37, Tryz.ntmps37;go_wp2_with (go_at_call 86; refine stopAt ?_);unfold Hid;refine hi.mono ?_;rintro e w1 ⟨rfl, hS⟩;obtain ⟨off, c, hrow, hc, hm, hl, hl2, hc1, t0, t1, t2, t3, HN⟩ := PS.step (H.out.keep hS) Hk.out;unfold maxLen at hm;have b0 := hrow.cell 0;simp only [List.getElem?_cons_zero] at b0;have f0 := hrow.frozen 0;have hl0 : (0 : Int) < (l.length : Int) := by omega
  have HN := LH HN;clear hrow;have HS := LH hS;clear hS hi;go_wp2;go_ret;exact ⟨rfl, HN.out, (HS.out.mono fun _ _ _ => tv).setCell (fun _ h => h rfl) _⟩
/-- It panics so. -/
def FailP (g : Nat) (p : PE) (w : World) (e : Ending) (w' : World) : Prop := e = .panicked [{ v := failV p.1 p.2, recovered := false }] ∧ Same (fun q => q ≠ g) w w'
theorem FailP.after {g : Nat} {p : PE} {w w1 w' : World} {e : Ending} {S : Nat → Prop} (h : FailP g p w1 e w') (hs : Same S w w1) (hS : ∀ k, k ≠ g → S k := by intros; trivial) : FailP g p w e w' := ⟨h.1, (hs.mono fun k _ hk => hS k hk).trans h.2⟩
set_option maxHeartbeats 1000000 in
theorem wrong_any (g t : Nat) (l : List PT) (o er : Nat) (w : World) (h : PS w g t l o) : Calls Tryz.prog 39 #[.pointer (some ⟨g, 0, none⟩), .int .i64 (er : Int)] w (FailP g ((hdT l).1, er) w) := by
 obtain ⟨off, c, hrow, hc, hm, hpos, t0, t1, t2, t3⟩ := h.open_;unfold maxLen at hm;have b0 := hrow.cell 0;simp only [List.getElem?_cons_zero] at b0;have hl : (0 : Int) < (l.length : Int) := by omega
 clear hrow;clear h hpos;go_enter Tryz.func39, Tryz.ntmps39;go_wp2;exact ⟨rfl, rfl, Same.refl _ _⟩
set_option maxHeartbeats 1000000 in
theorem named_any (g t : Nat) (l : List PT) (o : Nat) (w : World) (h : PS w g t l o) : Calls Tryz.prog 88 #[.pointer (some ⟨g, 0, none⟩)] w fun e w' => e = .returned (.bool (namedT l)) ∧ Same (fun _ => True) w w' := by
 obtain ⟨off, c, hrow, hc, hm, hpos, t0, t1, t2, t3⟩ := h.open_;unfold maxLen at hm;have b0 := hrow.cell 0;simp only [List.getElem?_cons_zero] at b0;have hl : (0 : Int) < (l.length : Int) := by omega
 clear hrow;have Hi : Hid (namedT l = (decide ((hdT l).2.kind = 1) && wordF (hdT l).2.s)) := LH rfl;have hw := lexword_all (str (hdT l).2.s) w h.mx rfl;clear h hpos;generalize (hdT l).2.kind = kd at *;generalize (hdT l).2.s = sd at *;generalize (hdT l).2.n = nd at *;generalize (hdT l).1 = pd at *;have ebl : bl (str sd) = sd := rfl;rw [ebl] at hw;by_cases h1 : kd = 1
 ·have H1 := LH h1;go_enter Tryz.func88, Tryz.ntmps88;go_wp2_with (go_at_call 57; refine stopAt ?_);unfold Hid;refine hw.mono ?_;rintro e w1 ⟨rfl, hS⟩;go_wp2;go_ret;exact ⟨ret_bool (by rw [Hi.out]; simp [H1.out]), hS⟩
 ·have e1 : ((kd : Int) == 1) = false := by simpa using fun h : (kd : Int) = 1 => h1 (by omega)
  have H1 := LH h1;clear hw h1;go_enter Tryz.func88, Tryz.ntmps88;go_wp2;go_ret;exact ⟨ret_bool (by rw [Hi.out]; simp [H1.out]), Same.refl _ _⟩
/-- It panics, or answers so and goes on. -/
def DoP {α : Type} (g t o : Nat) (x : PR α) (good : α → World → Value → Prop) (w : World) (e : Ending) (w' : World) : Prop := match x with
 | .error p => FailP g p w e w'
 | .ok (a, l') => ∃ v, e = .returned v ∧ good a w' v ∧ PS w' g t l' o ∧ Same (fun q => q ≠ g) w w'
set_option maxHeartbeats 1000000 in
theorem name_any (g t : Nat) (l : List PT) (o : Nat) (w : World) (h : PS w g t l o) : Calls Tryz.prog 84 #[.pointer (some ⟨g, 0, none⟩)] w (DoP g t o (nameT l) (fun s _ v => v = .string (str s)) w) := by
 have hi := named_any g t l o w h;have H := LH h;cases hb : namedT l
 ·rw [hb] at hi
  have hp : ∀ e w', FailP g ((hdT l).1, 13) w e w' → DoP g t o (nameT l) (fun s _ v => v = .string (str s)) w e w' := fun e w' hf => by
   unfold nameT;rw [hb];exact hf
  refine Calls.mono ?_ hp;clear hb h hp;go_enter Tryz.func84, Tryz.ntmps84;go_wp2_with (go_at_call 88; refine stopAt ?_);unfold Hid;refine hi.mono ?_;rintro e w1 ⟨rfl, hS⟩;have hwr := wrong_any g t l o 13 w1 (H.out.keep hS);go_wp2_with (go_at_call 39; refine stopAt ?_);unfold Hid;refine hwr.mono ?_;rintro e w2 ⟨rfl, hS2⟩;exact ⟨rfl, FailP.after ⟨rfl, hS2⟩ hS⟩
 ·rw [hb] at hi;have Hk := LH (namedT_kind hb)
  have hp : ∀ e w', (e = .returned (.string (str (hdT l).2.s)) ∧ PS w' g t l.tail o ∧ Same (fun q => q ≠ g) w w') → DoP g t o (nameT l) (fun s _ v => v = .string (str s)) w e w' := fun e w' hf => by
   unfold nameT;rw [hb];exact ⟨_, hf.1, rfl, hf.2⟩
  refine Calls.mono ?_ hp;clear hb h hp;go_enter Tryz.func84, Tryz.ntmps84;go_wp2_with (go_at_call 88; refine stopAt ?_);unfold Hid;refine hi.mono ?_;rintro e w1 ⟨rfl, hS⟩;obtain ⟨off, c, hrow, hc, hm, hl, hl2, hc1, t0, t1, t2, t3, HN⟩ := PS.step (H.out.keep hS) Hk.out;unfold maxLen at hm;have b0 := hrow.cell 0;simp only [List.getElem?_cons_zero] at b0;have f0 := hrow.frozen 0;have hl0 : (0 : Int) < (l.length : Int) := by omega
  have HN := LH HN;clear hrow;have HS := LH hS;clear hS hi;go_wp2;go_ret;exact ⟨rfl, HN.out, (HS.out.mono fun _ _ _ => tv).setCell (fun _ h => h rfl) _⟩
set_option maxHeartbeats 1000000 in
theorem int_any (g t : Nat) (l : List PT) (o : Nat) (w : World) (h : PS w g t l o) : Calls Tryz.prog 41 #[.pointer (some ⟨g, 0, none⟩)] w (DoP g t o (intT l) (fun n _ v => v = .int .i64 ((n : Nat) : Int)) w) := by
 have H := LH h;by_cases hb : (hdT l).2.kind = 2
 ·have Hk := LH (show (hdT l).2.kind ≠ 0 by omega)
  have hp : ∀ e w', (e = .returned (.int .i64 ((hdT l).2.n : Int)) ∧ PS w' g t l.tail o ∧ Same (fun q => q ≠ g) w w') → DoP g t o (intT l) (fun n _ v => v = .int .i64 ((n : Nat) : Int)) w e w' := fun e w' hf => by
   unfold intT;rw [if_pos hb];exact ⟨_, hf.1, rfl, hf.2⟩
  refine Calls.mono ?_ hp;clear h hp;obtain ⟨off, c, hrow, hc, hm, hl, hl2, hc1, t0, t1, t2, t3, HN⟩ := PS.step H.out Hk.out;unfold maxLen at hm;have b0 := hrow.cell 0;simp only [List.getElem?_cons_zero] at b0;have f0 := hrow.frozen 0;have hl0 : (0 : Int) < (l.length : Int) := by omega
  have HN := LH HN;clear hrow;rw [hb] at t0;clear hb;go_enter Tryz.func41, Tryz.ntmps41;go_wp2;go_ret;exact ⟨rfl, HN.out, SR.setCell (fun _ h => h rfl) _⟩
 ·have hp : ∀ e w', FailP g ((hdT l).1, 13) w e w' → DoP g t o (intT l) (fun n _ v => v = .int .i64 ((n : Nat) : Int)) w e w' := fun e w' hf => by
   unfold intT;rw [if_neg hb];exact hf
  refine Calls.mono ?_ hp;have hwr := wrong_any g t l o 13 w h;clear h hp;obtain ⟨off, c, hrow, hc, hm, hpos, t0, t1, t2, t3⟩ := H.out.open_;unfold maxLen at hm;have b0 := hrow.cell 0;simp only [List.getElem?_cons_zero] at b0;have hl : (0 : Int) < (l.length : Int) := by omega
  clear hrow;generalize hkd : (hdT l).2.kind = kd at t0 hb;have e1 : ((kd : Int) == 2) = false := by simpa using fun h : (kd : Int) = 2 => hb (by omega)
  have e2 : ((kd : Int) != 2) = true := by simp [bne, e1]
  clear hkd hb;go_enter Tryz.func41, Tryz.ntmps41;go_wp2_with (go_at_call 39; refine stopAt ?_);unfold Hid;refine hwr.mono ?_;rintro e w2 ⟨rfl, hS2⟩;exact ⟨rfl, rfl, hS2⟩
end Go.Proofs.YtdfojghhpdkpfaaGreatDoor
