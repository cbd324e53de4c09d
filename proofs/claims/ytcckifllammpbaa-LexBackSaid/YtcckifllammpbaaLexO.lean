/-
  The walk of the document's lex: the token at a place.
-/
import Derived.Test.YtcckifllammpbaaLexQ
import Derived.Deep.QuietTactic
import Derived.BigQuiet
set_option linter.unusedSimpArgs false
set_option linter.unusedVariables false
namespace Go.Proofs.Ytcckifllammpbaa
open Go.RowKit

theorem tokF_at (s : ByteArray) (a : Nat) (h : a < s.size) : tokF ((bl s).drop a) = if isBlank s[a] then ⟨⟨0, [], 0⟩, 1, 0⟩
    else if isLet s[a] then ⟨⟨1, (((bl s).drop a).takeWhile isWordy).map upB, 0⟩, runF isWordy ((bl s).drop a), 0⟩ else if isDig s[a] then numF ((bl s).drop a) else if s[a] = 39 then textGo [] 1 ((bl s).drop (a + 1)) else signF ((bl s).drop a) := by
  have h0 := bl_get s a h
  conv => lhs; rw [h0]
  simp only [tokF]
  rw [← h0]
theorem signF_at (s : ByteArray) (a : Nat) (h : a < s.size) : signF ((bl s).drop a) = if ∃ h1 : a + 1 < s.size, isTwo s[a] s[a + 1] = true then ⟨⟨4, bl (s.extract a (a + 2)), 0⟩, 2, 0⟩ else if isSign s[a] then ⟨⟨4, [s[a]], 0⟩, 1, 0⟩ else tErr 13 := by
  have h0 := bl_get s a h
  by_cases h1 : a + 1 < s.size
  · have h2 := bl_get s (a + 1) h1
    rw [h0, h2, ext_two s a h1, bl_str]
    simp only [signF]
    by_cases ht : isTwo s[a] s[a + 1] = true
    · rw [if_pos ht, if_pos ⟨h1, ht⟩]
    · have hn : ¬ ∃ h1 : a + 1 < s.size, isTwo s[a] s[a + 1] = true := fun ⟨_, h⟩ => ht h
      rw [if_neg ht, if_neg hn]
  · have h2 : (bl s).drop (a + 1) = [] := List.drop_eq_nil_of_le (by rw [bl_len]; omega)
    have hn : ¬ ∃ h1 : a + 1 < s.size, isTwo s[a] s[a + 1] = true := fun ⟨h, _⟩ => h1 h
    rw [h0, h2, if_neg hn]
    rfl
theorem one_results {W : World} {k : Nat} {n0 n1 n3 n e : Int} {s2 : ByteArray} (R : Row W k 28 [.int .i64 n0, .int .i64 n1, .string s2, .int .i64 n3]) {tmps : Array Value}
    (h2 : tmps.getD 4 undef = .pointer (some ⟨k, 0, none⟩)) (h3 : tmps.getD 5 undef = .int .i64 n) (h4 : tmps.getD 6 undef = .int .i64 e) :
    (results Try.f36 tmps).run Try.prog W = .ok (.tuple #[.agg #[.int .i64 n0, .int .i64 n1, .string s2, .int .i64 n3], .int .i64 n, .int .i64 e]) W := by
  have d0 : W.cell? ⟨k, 0, none⟩ = some (.int .i64 n0) := R.cell 0
  have d1 : W.cell? ⟨k, 1, none⟩ = some (.int .i64 n1) := R.cell 1
  have d2 : W.cell? ⟨k, 2, none⟩ = some (.string s2) := R.cell 2
  have d3 : W.cell? ⟨k, 3, none⟩ = some (.int .i64 n3) := R.cell 3
  simp at h2 h3 h4
  simp [results, Try.results36, h2, h3, h4, go_sem, d0, d1, d2, d3]
theorem wordy_at (s : ByteArray) (k : Nat) (hs : k < s.size) (h : isWordy s[k] = true) : ((bl s).drop k).takeWhile isWordy = s[k] :: ((bl s).drop (k + 1)).takeWhile isWordy := by
  rw [bl_get s k hs]
  simp [List.takeWhile_cons, h]
theorem wordy_no (s : ByteArray) (k : Nat) (hs : k < s.size) (h : isWordy s[k] = false) : ((bl s).drop k).takeWhile isWordy = [] := by
  rw [bl_get s k hs]
  simp [List.takeWhile_cons, h]
theorem add_byte (acc : List UInt8) (c : UInt8) (ha : acc.length ≤ 1000000) (w : World) :
    (Op.stringOp .add (str acc) (str [c])).run Try.prog w = .ok (.string (str (acc ++ [c]))) w := by
  rw [← str_app]
  exact run_string_add_sum _ _ _ (by rw [str_size, str_size]; simp; omega)
theorem conv_one (w : World) (c : UInt8) : (convert 83 9 (.slice (some ⟨w.heap.size, 0, none⟩) 1 1)).run Try.prog (w.alloc (.cells #[V8 c] 5)) = .ok (.string (str [c])) (w.alloc (.cells #[V8 c] 5)) :=
  (By.lit (S := fun _ => True) (bs := [c]) (n := 1) (c := 1) (fr := (0, 0)) (e := 5) (heap_now rfl) trivial rfl (by omega) (by simp [maxLen])).conv 83 9 5 Try.underlying83 Try.underlying5 Try.underlying9
/-- What the word's loop holds. -/
def WordRel (s : ByteArray) (a k : Nat) (acc : List UInt8) (w wr : World) : Prop :=
  a ≤ k ∧ k ≤ s.size ∧ acc.length ≤ k ∧ acc ++ (((bl s).drop k).takeWhile isWordy).map upB = (((bl s).drop a).takeWhile isWordy).map upB ∧ k + runF isWordy ((bl s).drop k) = a + runF isWordy ((bl s).drop a) ∧
  Row wr w.heap.size 28 [.int .i64 0, .int .i64 0, .string ⟨#[]⟩, .int .i64 0] ∧ Same (fun _ => True) w wr
theorem refgreat {c : UInt8} (w : World) : Calls Try.prog 44 #[.int .u8 (n8 c)] w fun e w' => e = .returned (.int .u8 (n8 (upB c))) ∧ w = w' := refgreat_any c w
set_option maxHeartbeats 1000000 in
theorem refone_word (s : ByteArray) (a : Nat) (w : World) (hs : s.size ≤ 100000) (ha : a < s.size) (hb : isBlank s[a] = false) (hl : isLet s[a] = true) (R : TRes) (hR : R = tokF ((bl s).drop a)) :
    Calls Try.prog 36 #[.string s, .int .i64 a] w (OneP R a w) := by
  rw [tokF_at s a ha, hb, hl] at hR
  simp only [if_true, if_false, Bool.false_eq_true] at hR
  have HR := Lib.hid hR
  have g := reflet hl
  have hrow0 := Row.new w 28 [.int .i64 0, .int .i64 0, .string ⟨#[]⟩, .int .i64 0]
  have Hrow0 := Lib.hid hrow0
  clear hR hb hl hrow0
  go_enter Try.func36, Try.ntmps36
  go_wp2_with (go_at_call 43; refine (g _).mono ?_; rintro e w' ⟨rfl, rfl⟩)
  go_loopw [1, 7] (fun i t wr => ∃ (k : Nat) (acc : List UInt8), i = .int .i64 k ∧ t = .string (str acc) ∧ WordRel s a k acc w wr) (fun i _ _ => s.size - (intOf i).toNat)
  case atStart => exact ⟨a, [], rfl, rfl, Nat.le_refl _, by omega, by simp, by simp, rfl, Hrow0.out, (Same.refl _ _).alloc _⟩
  case round =>
    clear g
    obtain ⟨k, acc, rfl, rfl, h1, h2, h3, h4, h5, hrow, hS⟩ := hrel
    have H4 := Lib.hid h4
    have H5 := Lib.hid h5
    have Hrow := Lib.hid hrow
    have HS := Lib.hid hS
    obtain ⟨a0, a1, a2, a3, f0, f1, f2, f3⟩ := tok_cells hrow
    clear h4 h5 hrow hS Hrow0
    by_cases hlt : k < s.size
    · cases hw : isWordy s[k]
      · have e1 := wordy_no s k hlt hw
        have e2 := (run_at isWordy s k hlt).2 hw
        have h4 := H4.out
        have h5 := H5.out
        rw [e1, List.map_nil, List.append_nil] at h4
        rw [← h4, show runF isWordy ((bl s).drop a) = k - a from by omega] at HR
        unfold isWordy at hw
        rw [Bool.or_eq_false_iff] at hw
        have g1 := reflet hw.1
        have g2 := refdig hw.2
        clear h4 h5 e1 e2 hw
        go_wp2_with (first | (go_at_call 43; refine (g1 _).mono ?_; rintro e w' ⟨rfl, rfl⟩) | (go_at_call 42; refine (g2 _).mono ?_; rintro e w' ⟨rfl, rfl⟩))
        obtain ⟨r1, r2⟩ := tok_set4 (a := .int .i64 1) (b := .int .i64 0) (c := .string (str acc)) (d := .int .i64 0) Hrow.out HS.out
        refine bodyPost_ret (one_results r1 rfl rfl rfl) rfl ⟨?_, r2⟩
        rw [HR.out]
        have ek : a + (k - a) = k := by omega
        simp [ek]
      · have e1 := wordy_at s k hlt hw
        have e2 := (run_at isWordy s k hlt).1 hw
        have h4 := H4.out
        have h5 := H5.out
        rw [e1, List.map_cons] at h4
        rw [e2] at h5
        have H4' := Lib.hid h4
        have H5' := Lib.hid h5
        have hadd := add_byte acc (upB s[k]) (by omega)
        cases hl : isLet s[k]
        · have hd : isDig s[k] = true := by unfold isWordy at hw; rw [hl] at hw; simpa using hw
          have g1 := reflet hl
          have g2 := refdig hd
          clear h4 h5 e1 e2 hw hl hd
          go_wp2_with (first | (go_at_call 43; refine (g1 _).mono ?_; rintro e w' ⟨rfl, rfl⟩) | (go_at_call 42; refine (g2 _).mono ?_; rintro e w' ⟨rfl, rfl⟩) | (go_at_call 44; refine (refgreat _).mono ?_; rintro e w' ⟨rfl, rfl⟩) | (with_reducible refine stopConv rfl ?_))
          unfold Hid
          refine wpList_conv rfl rfl rfl (conv_one wr (upB s[k])) ?_
          go_wp2
          go_roundw
          case rel =>
            refine ⟨k + 1, acc ++ [upB s[k]], by go_num, rfl, by omega, by omega, by simp; omega, by rw [List.append_assoc]; exact H4'.out, by have := H5'.out; omega, Hrow.out.keep ((Same.refl (fun _ => True) _).alloc _) trivial, HS.out.alloc _⟩
          case measure => simp [intOf]; omega
        · have g1 := reflet hl
          clear h4 h5 e1 e2 hw hl
          go_wp2_with (first | (go_at_call 43; refine (g1 _).mono ?_; rintro e w' ⟨rfl, rfl⟩) | (go_at_call 44; refine (refgreat _).mono ?_; rintro e w' ⟨rfl, rfl⟩) | (with_reducible refine stopConv rfl ?_))
          unfold Hid
          refine wpList_conv rfl rfl rfl (conv_one wr (upB s[k])) ?_
          go_wp2
          go_roundw
          case rel =>
            refine ⟨k + 1, acc ++ [upB s[k]], by go_num, rfl, by omega, by omega, by simp; omega, by rw [List.append_assoc]; exact H4'.out, by have := H5'.out; omega, Hrow.out.keep ((Same.refl (fun _ => True) _).alloc _) trivial, HS.out.alloc _⟩
          case measure => simp [intOf]; omega
    · obtain rfl : k = s.size := by omega
      have e1 : (bl s).drop s.size = [] := List.drop_eq_nil_of_le (by rw [bl_len]; exact Nat.le_refl _)
      have h4 := H4.out
      have h5 := H5.out
      rw [e1] at h4 h5
      simp only [List.takeWhile_nil, List.map_nil, List.append_nil, runF, List.length_nil, Nat.add_zero] at h4 h5
      rw [← h4, show runF isWordy ((bl s).drop a) = s.size - a from by unfold runF; omega] at HR
      clear h4 h5 e1
      go_wp2
      obtain ⟨r1, r2⟩ := tok_set4 (a := .int .i64 1) (b := .int .i64 0) (c := .string (str acc)) (d := .int .i64 0) Hrow.out HS.out
      refine bodyPost_ret (one_results r1 rfl rfl rfl) rfl ⟨?_, r2⟩
      rw [HR.out]
      have ek : a + (s.size - a) = s.size := by omega
      simp [ek]
/-- The four cells behind a call. -/
theorem tok_after {w w1 : World} (hS : Same (fun _ => True) (w.alloc (.cells #[.int .i64 0, .int .i64 0, .string ⟨#[]⟩, .int .i64 0] 28)) w1) :
    Row w1 w.heap.size 28 [.int .i64 0, .int .i64 0, .string ⟨#[]⟩, .int .i64 0] ∧ Same (fun _ => True) w w1 :=
  ⟨(Row.new w 28 [.int .i64 0, .int .i64 0, .string ⟨#[]⟩, .int .i64 0]).keep hS trivial, ((Same.refl _ _).alloc _).trans hS⟩
set_option maxHeartbeats 1000000 in
theorem refone_num (s : ByteArray) (a : Nat) (w : World) (hs : s.size ≤ 100000) (ha : a < s.size) (hb : isBlank s[a] = false) (hl : isLet s[a] = false) (hd : isDig s[a] = true) (R : TRes) (hR : R = tokF ((bl s).drop a)) :
    Calls Try.prog 36 #[.string s, .int .i64 a] w (OneP R a w) := by
  rw [tokF_at s a ha, hb, hl, hd] at hR
  simp only [if_true, if_false, Bool.false_eq_true] at hR
  have HR := Lib.hid hR
  have g := reflet hl
  have g2 := refdig hd
  clear hR hb hl hd
  go_enter Try.func36, Try.ntmps36
  go_wp2_with (first | (go_at_call 43; refine (g _).mono ?_; rintro e w' ⟨rfl, rfl⟩) | (go_at_call 42; refine (g2 _).mono ?_; rintro e w' ⟨rfl, rfl⟩) | (go_at_call 61; refine stopAt ?_))
  unfold Hid
  refine (refnumber_any s a _ hs ha R HR.out).mono ?_
  rintro e w1 ⟨rfl, hS⟩
  obtain ⟨hr1, hS1⟩ := tok_after hS
  have Hr1 := Lib.hid hr1
  have HS1 := Lib.hid hS1
  obtain ⟨a0, a1, a2, a3, f0, f1, f2, f3⟩ := tok_cells hr1
  obtain ⟨nx, hnx⟩ : ∃ nx, nx = (if R.e = 0 then ((a + R.n : Nat) : Int) else 0) := ⟨_, rfl⟩
  rw [← hnx]
  have HN := Lib.hid hnx
  clear hr1 hS1 hS hnx
  go_wp2
  obtain ⟨r1, r2⟩ := tok_set4 Hr1.out HS1.out
  refine bodyPost_ret (one_results r1 rfl rfl rfl) rfl ⟨?_, r2⟩
  rw [HN.out]
set_option maxHeartbeats 1000000 in
theorem refone_text (s : ByteArray) (a : Nat) (w : World) (hs : s.size ≤ 100000) (ha : a < s.size) (hb : isBlank s[a] = false) (hl : isLet s[a] = false) (hd : isDig s[a] = false) (hq : s[a] = 39) (R : TRes) (hR : R = tokF ((bl s).drop a)) :
    Calls Try.prog 36 #[.string s, .int .i64 a] w (OneP R a w) := by
  rw [tokF_at s a ha, hb, hl, hd, if_neg (by decide), if_neg (by decide), if_neg (by decide), if_pos hq] at hR
  have HR := Lib.hid hR
  have g := reflet hl
  have g2 := refdig hd
  obtain ⟨q1, -⟩ := byte_is 39 hq
  simp only [show (((39 : UInt8).toNat : Nat) : Int) = 39 from rfl] at q1
  clear hR hb hl hd hq
  go_enter Try.func36, Try.ntmps36
  go_wp2_with (first | (go_at_call 43; refine (g _).mono ?_; rintro e w' ⟨rfl, rfl⟩) | (go_at_call 42; refine (g2 _).mono ?_; rintro e w' ⟨rfl, rfl⟩) | (go_at_call 62; refine stopAt ?_))
  unfold Hid
  refine (reftext_any s a _ hs ha R HR.out).mono ?_
  rintro e w1 ⟨rfl, hS⟩
  obtain ⟨hr1, hS1⟩ := tok_after hS
  have Hr1 := Lib.hid hr1
  have HS1 := Lib.hid hS1
  obtain ⟨a0, a1, a2, a3, f0, f1, f2, f3⟩ := tok_cells hr1
  obtain ⟨nx, hnx⟩ : ∃ nx, nx = (if R.e = 0 then ((a + R.n : Nat) : Int) else 0) := ⟨_, rfl⟩
  rw [← hnx]
  have HN := Lib.hid hnx
  clear hr1 hS1 hS hnx
  go_wp2
  obtain ⟨r1, r2⟩ := tok_set4 Hr1.out HS1.out
  refine bodyPost_ret (one_results r1 rfl rfl rfl) rfl ⟨?_, r2⟩
  rw [HN.out]
theorem ext_list (s : ByteArray) (a : Nat) (h : a + 1 < s.size) : (s.extract a (a + 2)).toList = [s[a], s[a + 1]] := by
  rw [ext_two s a h, ByteArray.toList_eq]
  rfl
theorem isTwo_cases {x y : UInt8} (h : isTwo x y = true) : (x = 60 ∧ y = 62) ∨ (x = 60 ∧ y = 61) ∨ (x = 62 ∧ y = 61) := by
  unfold isTwo at h
  simpa [or_assoc] using h
theorem isTwo_no {x y : UInt8} (h : ¬ isTwo x y = true) : ([x, y] == [60, 61]) = false ∧ ([x, y] == [62, 61]) = false ∧ ([x, y] == [60, 62]) = false := by
  unfold isTwo at h
  simp at h ⊢
  obtain ⟨⟨h1, h2⟩, h3⟩ := h
  exact ⟨h2, h3, h1⟩
set_option maxHeartbeats 1000000 in
theorem refone_two (s : ByteArray) (a : Nat) (w : World) (hs : s.size ≤ 100000) (ha : a < s.size) (hb : isBlank s[a] = false) (hl : isLet s[a] = false) (hd : isDig s[a] = false) (hq : s[a] ≠ 39) (h1 : a + 1 < s.size) (ht : isTwo s[a] s[a + 1] = true) (R : TRes) (hR : R = tokF ((bl s).drop a)) :
    Calls Try.prog 36 #[.string s, .int .i64 a] w (OneP R a w) := by
  rw [tokF_at s a ha, hb, hl, hd, if_neg (by decide), if_neg (by decide), if_neg (by decide), if_neg hq, signF_at s a ha, if_pos ⟨h1, ht⟩] at hR
  have HR := Lib.hid hR
  have g := reflet hl
  have g2 := refdig hd
  obtain ⟨q1, -⟩ := byte_no 39 hq
  simp only [show (((39 : UInt8).toNat : Nat) : Int) = 39 from rfl] at q1
  have h2 := ext_list s a h1
  clear hR hb hl hd hq
  rcases isTwo_cases ht with ⟨ex, ey⟩ | ⟨ex, ey⟩ | ⟨ex, ey⟩
  all_goals
    rw [ex, ey] at h2
    clear ht ex ey
    go_enter Try.func36, Try.ntmps36
    go_wp2_with (first | (go_at_call 43; refine (g _).mono ?_; rintro e w' ⟨rfl, rfl⟩) | (go_at_call 42; refine (g2 _).mono ?_; rintro e w' ⟨rfl, rfl⟩))
    clear h2
    refine bodyPost_ret (v := .tuple #[.agg #[.int .i64 4, .int .i64 0, .string (s.extract a (a + 2)), .int .i64 0], .int .i64 (a + 2), .int .i64 0]) (by simp [results, Try.results36, go_sem]) rfl ⟨?_, (Same.refl _ _).alloc _⟩
    rw [HR.out]
    simp only [if_true, str_bl]
    rfl
theorem str_bl' (s : ByteArray) : str s.data.toList = s := rfl
def signL : List UInt8 := [40, 41, 44, 59, 42, 61, 60, 62, 43, 45, 47, 37]
theorem signL_drop (j : Nat) (h : j < 12) : signL.drop j = ((⟨#[40, 41, 44, 59, 42, 61, 60, 62, 43, 45, 47, 37]⟩ : ByteArray)[j]'h) :: signL.drop (j + 1) := by
  exact bl_get ⟨#[40, 41, 44, 59, 42, 61, 60, 62, 43, 45, 47, 37]⟩ j h
theorem sign_yes {j : Nat} (h : j < 12) {c : UInt8} (hy : ((((⟨#[40, 41, 44, 59, 42, 61, 60, 62, 43, 45, 47, 37]⟩ : ByteArray)[j]'h).toNat : Int) == (c.toNat : Int)) = true) : (signL.drop j).contains c = true := by
  rw [byte_eq] at hy
  rw [signL_drop j h]
  have := of_decide_eq_true hy
  simp [this]
theorem sign_no {j : Nat} (h : j < 12) {c : UInt8} (hy : ((((⟨#[40, 41, 44, 59, 42, 61, 60, 62, 43, 45, 47, 37]⟩ : ByteArray)[j]'h).toNat : Int) == (c.toNat : Int)) = false) : (signL.drop j).contains c = (signL.drop (j + 1)).contains c := by
  rw [byte_eq] at hy
  rw [signL_drop j h]
  have := of_decide_eq_false hy
  rw [List.contains_cons]
  have e : (c == ((⟨#[40, 41, 44, 59, 42, 61, 60, 62, 43, 45, 47, 37]⟩ : ByteArray)[j]'h)) = false := by
    simpa using fun e => this e.symm
  rw [e]; rfl
set_option maxHeartbeats 1000000 in
theorem refone_sign (s : ByteArray) (a : Nat) (w : World) (hs : s.size ≤ 100000) (ha : a < s.size) (hb : isBlank s[a] = false) (hl : isLet s[a] = false) (hd : isDig s[a] = false) (hq : s[a] ≠ 39) (hn : ¬ ∃ h1 : a + 1 < s.size, isTwo s[a] s[a + 1] = true) (R : TRes) (hR : R = tokF ((bl s).drop a)) :
    Calls Try.prog 36 #[.string s, .int .i64 a] w (OneP R a w) := by
  rw [tokF_at s a ha, hb, hl, hd, if_neg (by decide), if_neg (by decide), if_neg (by decide), if_neg hq, signF_at s a ha, if_neg hn] at hR
  have HR := Lib.hid hR
  have g := reflet hl
  have g2 := refdig hd
  obtain ⟨q1, -⟩ := byte_no 39 hq
  simp only [show (((39 : UInt8).toNat : Nat) : Int) = 39 from rfl] at q1
  have hcase : ¬ a + 1 < s.size ∨ (a + 1 < s.size ∧ ((s.extract a (a + 2)).toList == [60, 61]) = false ∧ ((s.extract a (a + 2)).toList == [62, 61]) = false ∧ ((s.extract a (a + 2)).toList == [60, 62]) = false) := by
    by_cases h1 : a + 1 < s.size
    · right
      refine ⟨h1, ?_⟩
      rw [ext_list s a h1]
      exact isTwo_no fun h => hn ⟨h1, h⟩
    · exact .inl h1
  clear hR hb hl hd hq hn
  rcases hcase with h1 | ⟨h1, t1, t2, t3⟩
  · go_enter Try.func36, Try.ntmps36
    go_wp2_with (first | (go_at_call 43; refine (g _).mono ?_; rintro e w' ⟨rfl, rfl⟩) | (go_at_call 42; refine (g2 _).mono ?_; rintro e w' ⟨rfl, rfl⟩))
    go_loopw [9] (fun i wr => ∃ j : Nat, j ≤ 12 ∧ i = .int .i64 j ∧ (signL.drop j).contains s[a] = isSign s[a] ∧ Row wr w.heap.size 28 [.int .i64 0, .int .i64 0, .string ⟨#[]⟩, .int .i64 0] ∧ Same (fun _ => True) w wr) (fun i _ => 12 - (intOf i).toNat)
    case atStart => exact ⟨0, by omega, rfl, rfl, Row.new w _ [.int .i64 0, .int .i64 0, .string ⟨#[]⟩, .int .i64 0], (Same.refl _ _).alloc _⟩
    case round =>
      obtain ⟨j, hj, rfl, hc, hrow, hS⟩ := hrel
      have Hrow := Lib.hid hrow
      have HS := Lib.hid hS
      have HC := Lib.hid hc
      obtain ⟨a0, a1, a2, a3, f0, f1, f2, f3⟩ := tok_cells hrow
      clear hrow hS hc
      by_cases hlt : j < 12
      · have x1 : (0 : Int) ≤ j := by omega
        have x2 : (j : Int) < 12 := by omega
        have x3 : (0 : Int) ≤ a := by omega
        have x4 : (a : Int) < s.size := by omega
        cases hy : (((⟨#[40, 41, 44, 59, 42, 61, 60, 62, 43, 45, 47, 37]⟩ : ByteArray)[j]'hlt).toNat : Int) == (s[a].toNat : Int)
        · have HY := Lib.hid (sign_no hlt hy)
          go_wp2
          go_quiet (fail)
          rename_i nq
          go_wp2
          refine ⟨⟨j + 1, by omega, by go_num, by rw [← HC.out]; exact HY.out.symm, Hrow.out.keep ((Same.refl (fun _ => True) wr).drewN nq) trivial, HS.out.drewN nq⟩, by simp [intOf]; omega⟩
        · have HY := Lib.hid (sign_yes hlt hy)
          go_wp2
          go_quiet (fail)
          rename_i nq
          go_wp2
          have hsg : isSign s[a] = true := by rw [← HC.out]; exact HY.out
          obtain ⟨r1, r2⟩ := tok_set4 (a := .int .i64 4) (b := .int .i64 0) (c := .string (s.extract a (a + 1))) (d := .int .i64 0) (Hrow.out.keep ((Same.refl (fun _ => True) wr).drewN nq) trivial) (HS.out.drewN nq)
          refine bodyPost_ret (one_results r1 rfl rfl rfl) rfl ⟨?_, r2⟩
          rw [HR.out, if_pos hsg, ext_one s a ha]
          rfl
      · obtain rfl : j = 12 := by omega
        have hsg : isSign s[a] = false := by rw [← HC.out]; rfl
        have HSG := Lib.hid hsg
        clear hsg
        go_wp2
        obtain ⟨r1, r2⟩ := tok_set4 (a := .int .i64 0) (b := .int .i64 0) (c := .string ⟨#[]⟩) (d := .int .i64 0) Hrow.out HS.out
        refine bodyPost_ret (one_results r1 rfl rfl rfl) rfl ⟨?_, r2⟩
        rw [HR.out, HSG.out]
        rfl
  · have u1 : ¬ (s.extract a (a + 2)).toList = [60, 61] := by simpa using t1
    have u2 : ¬ (s.extract a (a + 2)).toList = [62, 61] := by simpa using t2
    have u3 : ¬ (s.extract a (a + 2)).toList = [60, 62] := by simpa using t3
    go_enter Try.func36, Try.ntmps36
    go_wp2_with (first | (go_at_call 43; refine (g _).mono ?_; rintro e w' ⟨rfl, rfl⟩) | (go_at_call 42; refine (g2 _).mono ?_; rintro e w' ⟨rfl, rfl⟩))
    go_loopw [9] (fun i wr => ∃ j : Nat, j ≤ 12 ∧ i = .int .i64 j ∧ (signL.drop j).contains s[a] = isSign s[a] ∧ Row wr w.heap.size 28 [.int .i64 0, .int .i64 0, .string ⟨#[]⟩, .int .i64 0] ∧ Same (fun _ => True) w wr) (fun i _ => 12 - (intOf i).toNat)
    case atStart => exact ⟨0, by omega, rfl, rfl, Row.new w _ [.int .i64 0, .int .i64 0, .string ⟨#[]⟩, .int .i64 0], (Same.refl _ _).alloc _⟩
    case round =>
      obtain ⟨j, hj, rfl, hc, hrow, hS⟩ := hrel
      have Hrow := Lib.hid hrow
      have HS := Lib.hid hS
      have HC := Lib.hid hc
      obtain ⟨a0, a1, a2, a3, f0, f1, f2, f3⟩ := tok_cells hrow
      clear hrow hS hc
      by_cases hlt : j < 12
      · have x1 : (0 : Int) ≤ j := by omega
        have x2 : (j : Int) < 12 := by omega
        have x3 : (0 : Int) ≤ a := by omega
        have x4 : (a : Int) < s.size := by omega
        cases hy : (((⟨#[40, 41, 44, 59, 42, 61, 60, 62, 43, 45, 47, 37]⟩ : ByteArray)[j]'hlt).toNat : Int) == (s[a].toNat : Int)
        · have HY := Lib.hid (sign_no hlt hy)
          go_wp2
          go_quiet (fail)
          rename_i nq
          go_wp2
          refine ⟨⟨j + 1, by omega, by go_num, by rw [← HC.out]; exact HY.out.symm, Hrow.out.keep ((Same.refl (fun _ => True) wr).drewN nq) trivial, HS.out.drewN nq⟩, by simp [intOf]; omega⟩
        · have HY := Lib.hid (sign_yes hlt hy)
          go_wp2
          go_quiet (fail)
          rename_i nq
          go_wp2
          have hsg : isSign s[a] = true := by rw [← HC.out]; exact HY.out
          obtain ⟨r1, r2⟩ := tok_set4 (a := .int .i64 4) (b := .int .i64 0) (c := .string (s.extract a (a + 1))) (d := .int .i64 0) (Hrow.out.keep ((Same.refl (fun _ => True) wr).drewN nq) trivial) (HS.out.drewN nq)
          refine bodyPost_ret (one_results r1 rfl rfl rfl) rfl ⟨?_, r2⟩
          rw [HR.out, if_pos hsg, ext_one s a ha]
          rfl
      · obtain rfl : j = 12 := by omega
        have hsg : isSign s[a] = false := by rw [← HC.out]; rfl
        have HSG := Lib.hid hsg
        clear hsg
        go_wp2
        obtain ⟨r1, r2⟩ := tok_set4 (a := .int .i64 0) (b := .int .i64 0) (c := .string ⟨#[]⟩) (d := .int .i64 0) Hrow.out HS.out
        refine bodyPost_ret (one_results r1 rfl rfl rfl) rfl ⟨?_, r2⟩
        rw [HR.out, HSG.out]
        rfl
theorem refone_any (s : ByteArray) (a : Nat) (w : World) (hs : s.size ≤ 100000) (ha : a < s.size) (hb : isBlank s[a] = false) (R : TRes) (hR : R = tokF ((bl s).drop a)) :
    Calls Try.prog 36 #[.string s, .int .i64 a] w (OneP R a w) := by
  cases hl : isLet s[a]
  · cases hd : isDig s[a]
    · by_cases hq : s[a] = 39
      · exact refone_text s a w hs ha hb hl hd hq R hR
      · by_cases h1 : ∃ h1 : a + 1 < s.size, isTwo s[a] s[a + 1] = true
        · obtain ⟨h1, h2⟩ := h1
          exact refone_two s a w hs ha hb hl hd hq h1 h2 R hR
        · exact refone_sign s a w hs ha hb hl hd hq h1 R hR
    · exact refone_num s a w hs ha hb hl hd R hR
  · exact refone_word s a w hs ha hb hl R hR
end Go.Proofs.Ytcckifllammpbaa
