/-
  The walks of package lex: runs, and letters made great.
-/
import Derived.Test.YtcckifllammpbaaLexW
import Derived.Test.YtcckifllammpbaaLib3
set_option linter.unusedSimpArgs false
set_option linter.unusedVariables false
namespace Go.Proofs.Ytcckifllammpbaa
open Go.RowKit

theorem bl_get (s : ByteArray) (k : Nat) (h : k < s.size) : (bl s).drop k = s[k] :: (bl s).drop (k + 1) := by
  rw [List.drop_eq_getElem_cons (by rw [bl_len]; exact h)]
  rfl
/-- The run from the front, a byte further. -/
theorem runF_step (p : UInt8 → Bool) (s : ByteArray) (k : Nat) (h : k < s.size) (hk : k + runF p ((bl s).drop k) = runF p (bl s)) :
    (p s[k] = true → k + 1 + runF p ((bl s).drop (k + 1)) = runF p (bl s)) ∧ (p s[k] = false → runF p (bl s) = k) := by
  rw [bl_get s k h] at hk
  constructor
  · intro hp
    simp only [runF, List.takeWhile_cons, hp, if_true, List.length_cons] at hk
    unfold runF
    omega
  · intro hp
    simp only [runF, List.takeWhile_cons, hp, if_false, Bool.false_eq_true, List.length_nil] at hk
    unfold runF
    omega
theorem ret_i64 {a b : Int} (h : a = b) : Ending.returned (.int .i64 a) = .returned (.int .i64 b) := by rw [h]

set_option maxHeartbeats 400000 in
theorem lexrunw_any (s : ByteArray) (w : World) (hs : s.size ≤ maxLen) :
    Calls Try.prog 38 #[.string s, .func (.func 39) #[] #[]] w fun e w' => e = .returned (.int .i64 (runF isWordy (bl s))) ∧ w = w' := by
  unfold maxLen at hs
  go_enter Try.func38, Try.ntmps38
  go_wp2
  go_loop [5] (fun i => ∃ k : Nat, k ≤ s.size ∧ i = .int .i64 k ∧ k + runF isWordy ((bl s).drop k) = runF isWordy (bl s)) (fun i => s.size - (intOf i).toNat)
  case atStart => exact ⟨0, Nat.zero_le _, rfl, by simp⟩
  case round =>
    obtain ⟨k, hk, rfl, hrun⟩ := hrel
    by_cases hlt : k < s.size
    · have hst := runF_step isWordy s k hlt hrun
      have HR := Lib.hid hrun
      clear hrun
      cases hp : isWordy s[k]
      · have HS := Lib.hid (hst.2 hp)
        clear hst
        have g := lexwordy_any s[k] w
        rw [hp] at g
        clear hp
        go_wp2_with (go_at_call 39; refine g.mono ?_; rintro e w' ⟨rfl, rfl⟩)
        go_ret
        exact ⟨ret_i64 (by rw [HS.out]), rfl⟩
      · have HS := Lib.hid (hst.1 hp)
        clear hst
        have g := lexwordy_any s[k] w
        rw [hp] at g
        clear hp
        go_wp2_with (go_at_call 39; refine g.mono ?_; rintro e w' ⟨rfl, rfl⟩)
        go_round
        case rel => exact ⟨k + 1, by omega, by go_num, HS.out⟩
        case measure => simp [intOf]; omega
    · have HR := Lib.hid hrun
      clear hrun
      go_wp2
      go_ret
      refine ⟨ret_i64 ?_, rfl⟩
      have := HR.out
      rw [List.drop_eq_nil_of_le (by rw [bl_len]; omega)] at this
      simp [runF] at this ⊢
      omega
set_option maxHeartbeats 400000 in
theorem lexrund_any (s : ByteArray) (w : World) (hs : s.size ≤ maxLen) :
    Calls Try.prog 38 #[.string s, .func (.func 37) #[] #[]] w fun e w' => e = .returned (.int .i64 (runF isDig (bl s))) ∧ w = w' := by
  unfold maxLen at hs
  go_enter Try.func38, Try.ntmps38
  go_wp2
  go_loop [5] (fun i => ∃ k : Nat, k ≤ s.size ∧ i = .int .i64 k ∧ k + runF isDig ((bl s).drop k) = runF isDig (bl s)) (fun i => s.size - (intOf i).toNat)
  case atStart => exact ⟨0, Nat.zero_le _, rfl, by simp⟩
  case round =>
    obtain ⟨k, hk, rfl, hrun⟩ := hrel
    by_cases hlt : k < s.size
    · have hst := runF_step isDig s k hlt hrun
      have HR := Lib.hid hrun
      clear hrun
      cases hp : isDig s[k]
      · have HS := Lib.hid (hst.2 hp)
        clear hst
        have g := lexdigit_any s[k] w
        rw [hp] at g
        clear hp
        go_wp2_with (go_at_call 37; refine g.mono ?_; rintro e w' ⟨rfl, rfl⟩)
        go_ret
        exact ⟨ret_i64 (by rw [HS.out]), rfl⟩
      · have HS := Lib.hid (hst.1 hp)
        clear hst
        have g := lexdigit_any s[k] w
        rw [hp] at g
        clear hp
        go_wp2_with (go_at_call 37; refine g.mono ?_; rintro e w' ⟨rfl, rfl⟩)
        go_round
        case rel => exact ⟨k + 1, by omega, by go_num, HS.out⟩
        case measure => simp [intOf]; omega
    · have HR := Lib.hid hrun
      clear hrun
      go_wp2
      go_ret
      refine ⟨ret_i64 ?_, rfl⟩
      have := HR.out
      rw [List.drop_eq_nil_of_le (by rw [bl_len]; omega)] at this
      simp [runF] at this ⊢
      omega

/-- The bytes of a string, laid anew. -/
theorem lexup_set (l : List UInt8) (k : Nat) (h : k < l.length) : (cs8 ((l.take k).map upB ++ l.drop k)).set k (V8 (upB l[k])) = cs8 ((l.take (k + 1)).map upB ++ l.drop (k + 1)) := by
  rw [List.drop_eq_getElem_cons h, List.take_succ_eq_append_getElem h]
  simp only [cs8, List.map_append, List.map_cons, List.map_nil]
  rw [List.set_append_right _ _ (by simp; omega)]
  simp
  rw [show k - min k l.length = 0 from by omega]
  simp
theorem lexup_get (l : List UInt8) (more : List Value) (k : Nat) (h : k < l.length) : (cs8 ((l.take k).map upB ++ l.drop k) ++ more)[k]? = some (V8 l[k]) := by
  have hlt : k < (cs8 ((l.take k).map upB ++ l.drop k)).length := by simp [cs8]; omega
  rw [List.getElem?_append_left hlt]
  simp only [cs8, List.getElem?_map]
  rw [List.getElem?_append_right (by simp; omega), List.getElem?_drop]
  rw [show k + (k - ((l.take k).map upB).length) = k from by simp; omega, List.getElem?_eq_getElem h]
  rfl
theorem lexup_keep (l : List UInt8) (k : Nat) (h : k < l.length) (he : upB l[k] = l[k]) : (l.take k).map upB ++ l.drop k = (l.take (k + 1)).map upB ++ l.drop (k + 1) := by
  rw [List.drop_eq_getElem_cons h, List.take_succ_eq_append_getElem h, List.map_append, List.map_cons, List.map_nil, he, List.append_assoc]
  rfl
theorem upB_eq (c : UInt8) : n8 (upB c) = if 97 ≤ n8 c ∧ n8 c ≤ 122 then n8 c - 32 else n8 c := by
  have := u8_all (p := fun c => decide (n8 (upB c) = if 97 ≤ n8 c ∧ n8 c ≤ 122 then n8 c - 32 else n8 c)) (by decide +kernel) c
  simpa using this
set_option maxHeartbeats 1000000 in
theorem lexupper_any (s : ByteArray) (w : World) (hs : s.size ≤ 100000) :
    Calls Try.prog 40 #[.string s] w fun e w' => e = .returned (.string (str ((bl s).map upB))) ∧ Same (fun _ => True) w w' := by
  have hbl := bl_len s
  have Hbl := Lib.hid hbl
  clear hbl
  go_enter Try.func40, Try.ntmps40
  go_wp2_with (with_reducible refine stopConv rfl ?_)
  unfold Hid
  refine wpList_bytes rfl rfl Try.underlying9 Try.underlying83 Try.underlying5 s rfl (by simp only [maxLen]; omega) ?_
  intro w1 c q more hrow hq hc hm hS hsz
  unfold maxLen at hm
  go_wp2
  go_loopw [4, 5, 10] (fun _ _ i wr => ∃ k : Nat, k ≤ s.size ∧ i = .int .i64 k ∧ RowQ wr w.heap.size 5 q (cs8 (((bl s).take k).map upB ++ (bl s).drop k) ++ more) ∧ Same (fun _ => True) w wr) (fun _ _ i _ => s.size - (intOf i).toNat)
  case atStart => exact ⟨0, Nat.zero_le _, rfl, by simpa using hrow, hS⟩
  case round =>
    obtain ⟨k, hk, rfl, hr, hS'⟩ := hrel
    by_cases hlt : k < s.size
    · have hl : k < (bl s).length := by rw [Hbl.out]; exact hlt
      have hcell := hr.cell k
      have hfr := hr.frozen k (by omega)
      have hset := lexup_set (bl s) k hl
      have hset2 : (cs8 (((bl s).take k).map upB ++ (bl s).drop k) ++ more).set k (V8 (upB (bl s)[k])) = cs8 (((bl s).take (k + 1)).map upB ++ (bl s).drop (k + 1)) ++ more := by
        rw [List.set_append_left _ _ (by simp; omega), hset]
      have hget := lexup_get (bl s) more k hl
      have hkeep := lexup_keep (bl s) k hl
      rw [hget] at hcell
      have hup := upB_eq (bl s)[k]
      have hb := n8_bd (bl s)[k]
      have HS2 := Lib.hid hset2
      have HK := Lib.hid hkeep
      clear hset hset2 hget hkeep
      generalize (bl s)[k] = c0 at *
      have hw : w.heap.size < wr.heap.size := hr.lt
      by_cases hrange : 97 ≤ n8 c0 ∧ n8 c0 ≤ 122
      · obtain ⟨h1, h2⟩ := hrange
        rw [if_pos ⟨h1, h2⟩] at hup
        have HU := Lib.hid hup
        clear hup
        go_wp2
        go_roundw
        case rel =>
          refine ⟨k + 1, by omega, by go_num, ?_, hS'.setCell (by simp) _⟩
          rw [← HS2.out]
          have := hr.set_ k (V8 (upB c0))
          rw [show V8 (upB c0) = Value.int .u8 (n8 c0 - 32) from by simp only [V8]; rw [HU.out]] at this ⊢
          exact this
        case measure => simp [intOf]; omega
      · rw [if_neg hrange] at hup
        have heq : upB c0 = c0 := n8_inj.1 hup
        have HU := Lib.hid heq
        clear hup heq
        by_cases h1 : 97 ≤ n8 c0
        · have h2 : 122 < n8 c0 := by omega
          clear hrange
          go_wp2
          go_roundw
          case rel =>
            refine ⟨k + 1, by omega, by go_num, ?_, hS'⟩
            rw [← HK.out HU.out]
            exact hr
          case measure => simp [intOf]; omega
        · clear hrange
          go_wp2
          go_roundw
          case rel =>
            refine ⟨k + 1, by omega, by go_num, ?_, hS'⟩
            rw [← HK.out HU.out]
            exact hr
          case measure => simp [intOf]; omega
    · obtain rfl : k = s.size := by omega
      have e1 : (bl s).take s.size = bl s := List.take_of_length_le (by rw [Hbl.out]; exact Nat.le_refl _)
      have e2 : (bl s).drop s.size = [] := List.drop_eq_nil_of_le (by rw [Hbl.out]; exact Nat.le_refl _)
      rw [e1, e2, List.append_nil] at hr
      have hby := hr.by_ (n := s.size) (c := c) (by rw [List.length_map, Hbl.out]) hc (by simp only [maxLen]; omega)
      have hcv := hby.conv (P := Try.prog) 83 9 5 Try.underlying83 Try.underlying5 Try.underlying9
      clear e1 e2
      have HC := Lib.hid hcv
      clear hcv hby
      go_wp2_with (with_reducible refine stopConv rfl ?_)
      unfold Hid
      refine wpList_conv rfl rfl rfl HC.out ?_
      go_wp2
      go_ret
      exact ⟨rfl, hS'⟩
end Go.Proofs.Ytcckifllammpbaa
