/-
  The walks of the document's lex: bytes, numbers, texts.
-/
import Derived.Test.YtcckifllammpbaaLexL
set_option linter.unusedSimpArgs false
set_option linter.unusedVariables false
namespace Go.Proofs.Ytcckifllammpbaa
open Go.RowKit

theorem ret_u8 {a b : Int} (h : a = b) : Ending.returned (.int .u8 a) = .returned (.int .u8 b) := by rw [h]
set_option maxHeartbeats 400000 in
theorem refgreat_any (c : UInt8) (w : World) : Calls Try.prog 44 #[.int .u8 (n8 c)] w fun e w' => e = .returned (.int .u8 (n8 (upB c))) ∧ w = w' := by
  have hb := n8_bd c
  have hup := upB_eq c
  by_cases h1 : 97 ≤ n8 c <;> by_cases h2 : n8 c ≤ 122
  · rw [if_pos ⟨h1, h2⟩] at hup
    have HU := Lib.hid hup
    clear hup
    go_enter Try.func44, Try.ntmps44
    go_wp2
    go_ret
    exact ⟨(by rw [HU.out]; exact ret_u8 (by omega)), rfl⟩
  all_goals
    rw [if_neg (by omega)] at hup
    have HU := Lib.hid hup
    clear hup
    first
    | (exfalso; omega)
    | (go_enter Try.func44, Try.ntmps44
       go_wp2
       go_ret
       exact ⟨(by rw [HU.out]; rfl), rfl⟩)
theorem isLet_up (c : UInt8) : isLet c = ((decide (65 ≤ n8 (upB c)) && decide (n8 (upB c) ≤ 90)) || decide (n8 c = 95)) := by
  have := u8_all (p := fun c => isLet c == ((decide (65 ≤ n8 (upB c)) && decide (n8 (upB c) ≤ 90)) || decide (n8 c = 95))) (by decide +kernel) c
  simpa using this
set_option maxHeartbeats 400000 in
theorem refletter_any (c : UInt8) (w : World) : Calls Try.prog 43 #[.int .u8 (n8 c)] w fun e w' => e = .returned (.bool (isLet c)) ∧ w = w' := by
  have H := Lib.hid (isLet_up c)
  by_cases h1 : 65 ≤ n8 (upB c) <;> by_cases h2 : n8 (upB c) ≤ 90 <;> by_cases h4 : n8 c = 95
  all_goals
    have K := H.out
    simp only [h1, h2, h4, decide_true, decide_false, Bool.and_true, Bool.and_false, Bool.or_true, Bool.or_false, Bool.and_self, Bool.or_self, Bool.false_and] at K
    rw [K]
    clear K H
    first | have k4 : (n8 c == 95) = true := by simpa using h4
          | have k4 : (n8 c == 95) = false := by simpa using h4
    try have k5 : n8 (upB c) < 65 := by omega
    try have k6 : decide (n8 (upB c) ≤ 90) = false := decide_eq_false (by omega)
    first
      | (exfalso; omega)
      | (clear h4
         go_enter Try.func43, Try.ntmps43
         go_wp2_with (go_at_call 44; refine (refgreat_any c _).mono ?_; rintro e w' ⟨rfl, rfl⟩)
         go_ret
         exact ⟨rfl, rfl⟩)
set_option maxHeartbeats 400000 in
theorem refdigit_any (c : UInt8) (w : World) : Calls Try.prog 42 #[.int .u8 (n8 c)] w fun e w' => e = .returned (.bool (isDig c)) ∧ w = w' := by
  have H := Lib.hid (isDig_eq c)
  by_cases h1 : 48 ≤ n8 c <;> by_cases h2 : n8 c ≤ 57
  all_goals
    have K := H.out
    simp only [h1, h2, decide_true, decide_false, Bool.and_true, Bool.and_false, Bool.and_self] at K
    rw [K]
    clear K H
    go_enter Try.func42, Try.ntmps42
    go_wp2
    go_ret
    exact ⟨rfl, rfl⟩
set_option maxHeartbeats 400000 in
theorem refblank_any (c : UInt8) (w : World) : Calls Try.prog 35 #[.int .u8 (n8 c)] w fun e w' => e = .returned (.bool (isBlank c)) ∧ w = w' := by
  have H : isBlank c = (decide (n8 c = 9) || decide (n8 c = 10) || decide (n8 c = 13) || decide (n8 c = 32)) := isBlank_eq c
  have H := Lib.hid H
  by_cases h1 : n8 c = 9 <;> by_cases h2 : n8 c = 10 <;> by_cases h3 : n8 c = 13 <;> by_cases h4 : n8 c = 32
  all_goals
    have K := H.out
    simp only [h1, h2, h3, h4, decide_true, decide_false, Bool.or_true, Bool.or_false, Bool.true_or, Bool.or_self] at K
    clear H
    first
      | (exfalso; omega)
      | (try have k1 : (n8 c == 9) = false := by simpa using h1
         try have k2 : (n8 c == 10) = false := by simpa using h2
         try have k3 : (n8 c == 13) = false := by simpa using h3
         try have k4 : (n8 c == 32) = false := by simpa using h4
         have HK := Lib.hid K
         clear K
         go_enter Try.func35, Try.ntmps35
         go_wp2
         go_ret
         exact ⟨ret_bool (by rw [HK.out]; try simp_all), rfl⟩)
/-- The document's: a token, and where it ends. -/
def OneP (r : TRes) (at_ : Nat) (w : World) (e : Ending) (w' : World) : Prop :=
  e = .returned (.tuple #[.agg #[.int .i64 r.t.kind, .int .i64 0, .string (str r.t.s), .int .i64 r.t.n], .int .i64 (if r.e = 0 then ((at_ + r.n : Nat) : Int) else 0), .int .i64 r.e]) ∧ Same (fun _ => True) w w'
/-- Digits from a place on, a byte further. -/
theorem digs_at (s : ByteArray) (k : Nat) (hs : k < s.size) :
    (isDig s[k] = true → ((bl s).drop k).takeWhile isDig = s[k] :: ((bl s).drop (k + 1)).takeWhile isDig) ∧ (isDig s[k] = false → ((bl s).drop k).takeWhile isDig = []) := by
  rw [bl_get s k hs]
  constructor <;> intro h <;> simp [List.takeWhile_cons, h]
theorem run_at (p : UInt8 → Bool) (s : ByteArray) (k : Nat) (hs : k < s.size) :
    (p s[k] = true → runF p ((bl s).drop k) = 1 + runF p ((bl s).drop (k + 1))) ∧ (p s[k] = false → runF p ((bl s).drop k) = 0) := by
  rw [bl_get s k hs]
  constructor <;> intro h <;> simp [runF, List.takeWhile_cons, h, Nat.add_comm]
theorem numF_at {s : ByteArray} {a k v : Nat} (hk : k = a + runF isDig ((bl s).drop a)) (h : numGo 0 (((bl s).drop a).takeWhile isDig) = some v) :
    (∀ hn : k < s.size, numF ((bl s).drop a) = if isLet s[k] then tErr 13 else ⟨⟨2, [], v⟩, k - a, 0⟩) ∧ (¬ k < s.size → numF ((bl s).drop a) = ⟨⟨2, [], v⟩, k - a, 0⟩) := by
  have e : runF isDig ((bl s).drop a) = k - a := by omega
  constructor
  · intro hn
    unfold numF
    rw [h, dropWhile_run, e, List.drop_drop, show a + (k - a) = k from by omega, bl_get s k hn]
    rfl
  · intro hn
    unfold numF
    rw [h, dropWhile_run, e, List.drop_drop, show a + (k - a) = k from by omega, List.drop_eq_nil_of_le (by rw [bl_len]; omega)]
    rfl
/-- What number's loop holds. -/
def NumRel (s : ByteArray) (a k v : Nat) : Prop :=
  a ≤ k ∧ k ≤ s.size ∧ (v : Int) ≤ 9223372036854775807 ∧ numGo 0 (((bl s).drop a).takeWhile isDig) = numGo v (((bl s).drop k).takeWhile isDig) ∧ k + runF isDig ((bl s).drop k) = a + runF isDig ((bl s).drop a)
theorem refdig {c : UInt8} {b : Bool} (h : isDig c = b) (w : World) : Calls Try.prog 42 #[.int .u8 (n8 c)] w fun e w' => e = .returned (.bool b) ∧ w = w' := by
  subst h; exact refdigit_any c w
theorem reflet {c : UInt8} {b : Bool} (h : isLet c = b) (w : World) : Calls Try.prog 43 #[.int .u8 (n8 c)] w fun e w' => e = .returned (.bool b) ∧ w = w' := by
  subst h; exact refletter_any c w
set_option maxHeartbeats 1000000 in
theorem refnumber_any (s : ByteArray) (a : Nat) (w : World) (hs : s.size ≤ 100000) (ha : a < s.size) (R : TRes) (hR : R = numF ((bl s).drop a)) :
    Calls Try.prog 61 #[.string s, .int .i64 a] w (OneP R a w) := by
  have HR := Lib.hid hR
  clear hR
  go_enter Try.func61, Try.ntmps61
  go_wp2
  go_loop [1, 7, 8] (fun i v _ => ∃ k vv : Nat, i = .int .i64 k ∧ v = .int .i64 vv ∧ NumRel s a k vv) (fun i _ _ => s.size - (intOf i).toNat)
  case atStart => exact ⟨a, 0, rfl, rfl, Nat.le_refl _, by omega, by omega, rfl, rfl⟩
  case round =>
    obtain ⟨k, v, rfl, rfl, h1, h2, h3, h4, h5⟩ := hrel
    have H4 := Lib.hid h4
    have H5 := Lib.hid h5
    clear h4 h5
    by_cases hlt : k < s.size
    · cases hd : isDig s[k]
      · have g := refdig hd
        have e1 := (digs_at s k hlt).2 hd
        have e2 := (run_at isDig s k hlt).2 hd
        have hsome : numGo 0 (((bl s).drop a).takeWhile isDig) = some v := by rw [H4.out, e1]; rfl
        have hke : k = a + runF isDig ((bl s).drop a) := by have := H5.out; omega
        have hN := (numF_at hke hsome).1 hlt
        rw [← HR.out] at hN
        have HN := Lib.hid hN
        cases hl : isLet s[k]
        · have g2 := reflet hl
          have HL := Lib.hid hl
          clear hd e1 e2 hsome hke hN hl
          go_wp2_with (first | (go_at_call 42; refine (g _).mono ?_; rintro e w' ⟨rfl, rfl⟩) | (go_at_call 43; refine (g2 _).mono ?_; rintro e w' ⟨rfl, rfl⟩))
          rw [HN.out, if_neg (by rw [HL.out]; decide)]
          refine bodyPost_ret (v := .tuple #[.agg #[.int .i64 2, .int .i64 0, .string ⟨#[]⟩, .int .i64 v], .int .i64 k, .int .i64 0]) (by simp [results, Try.results61, go_sem]) rfl ⟨?_, (Same.refl _ _).alloc _⟩
          have ek : a + (k - a) = k := by omega
          simp [ek, str]
        · have g2 := reflet hl
          have HL := Lib.hid hl
          clear hd e1 e2 hsome hke hN hl
          go_wp2_with (first | (go_at_call 42; refine (g _).mono ?_; rintro e w' ⟨rfl, rfl⟩) | (go_at_call 43; refine (g2 _).mono ?_; rintro e w' ⟨rfl, rfl⟩))
          rw [HN.out, if_pos HL.out]
          refine bodyPost_ret (v := .tuple #[.agg #[.int .i64 0, .int .i64 0, .string ⟨#[]⟩, .int .i64 0], .int .i64 0, .int .i64 13]) (by simp [results, Try.results61, go_sem]) rfl ⟨?_, (Same.refl _ _).alloc _⟩
          rfl
      · have g := refdig hd
        obtain ⟨b1, b2⟩ := isDig_bd hd
        have b1' : 48 ≤ (s[k].toNat : Int) := b1
        have b2' : (s[k].toNat : Int) ≤ 57 := b2
        have e1 := (digs_at s k hlt).1 hd
        have e2 := (run_at isDig s k hlt).1 hd
        have h4 := H4.out
        rw [e1] at h4
        by_cases hbig : (9223372036854775807 - (n8 s[k] - 48)) / 10 < (v : Int)
        · have hno : R = tErr 5 := by rw [HR.out]; unfold numF; rw [h4, numGo_no hbig hd]
          have HN := Lib.hid hno
          have hbig' : (9223372036854775807 - ((s[k].toNat : Int) - 48)) / 10 < (v : Int) := hbig
          clear hd e1 e2 h4 hbig hno b1 b2
          go_wp2_with (go_at_call 42; refine (g _).mono ?_; rintro e w' ⟨rfl, rfl⟩)
          rw [HN.out]
          refine bodyPost_ret (v := .tuple #[.agg #[.int .i64 0, .int .i64 0, .string ⟨#[]⟩, .int .i64 0], .int .i64 0, .int .i64 5]) (by simp [results, Try.results61, go_sem]) rfl ⟨?_, (Same.refl _ _).alloc _⟩
          rfl
        · obtain ⟨v', y1, y2, y3⟩ := numGo_yes (l := ((bl s).drop (k + 1)).takeWhile isDig) (Int.not_lt.1 hbig) hd
          have HN := Lib.hid (h4.trans y1)
          have HE := Lib.hid e2
          have hbig' : (v : Int) ≤ (9223372036854775807 - ((s[k].toNat : Int) - 48)) / 10 := Int.not_lt.1 hbig
          have y2' : (v' : Int) = 10 * v + ((s[k].toNat : Int) - 48) := y2
          have hb3 : (v : Int) * 10 + ((s[k].toNat : Int) - 48) ≤ 9223372036854775807 := by omega
          have Y2 := Lib.hid y2'
          clear hd e1 e2 h4 hbig b1 b2 y1 y2 y2'
          go_wp2_with (go_at_call 42; refine (g _).mono ?_; rintro e w' ⟨rfl, rfl⟩)
          refine ⟨⟨k + 1, v', by go_num, ?_, by omega, by omega, y3, HN.out, by have h := HE.out; have := H5.out; omega⟩, ?_⟩
          · rw [Y2.out]; congr 1; omega
          · simp [intOf]; omega
    · obtain rfl : k = s.size := by omega
      have e1 : (bl s).drop s.size = [] := List.drop_eq_nil_of_le (by rw [bl_len]; exact Nat.le_refl _)
      have h4 := H4.out
      have h5 := H5.out
      rw [e1] at h4 h5
      have hN := (numF_at (k := s.size) (v := v) (by simpa [runF] using h5) h4).2 hlt
      rw [← HR.out] at hN
      have HN := Lib.hid hN
      clear h4 h5 e1 hN
      go_wp2
      rw [HN.out]
      refine bodyPost_ret (v := .tuple #[.agg #[.int .i64 2, .int .i64 0, .string ⟨#[]⟩, .int .i64 v], .int .i64 s.size, .int .i64 0]) (by simp [results, Try.results61, go_sem]) rfl ⟨?_, (Same.refl _ _).alloc _⟩
      have ek : a + (s.size - a) = s.size := by omega
      simp [ek, str]
end Go.Proofs.Ytcckifllammpbaa
