/-
  The walk of package lex's token.
-/
import Derived.Test.YtcckifllammpbaaLexS
set_option linter.unusedSimpArgs false
set_option linter.unusedVariables false
namespace Go.Proofs.Ytcckifllammpbaa
open Go.RowKit

theorem tokF_eq (s : ByteArray) (h : 0 < s.size) : tokF (bl s) = if isBlank s[0] then ⟨⟨0, [], 0⟩, 1, 0⟩
    else if isLet s[0] then ⟨⟨1, ((bl s).take (runF isWordy (bl s))).map upB, 0⟩, runF isWordy (bl s), 0⟩ else if isDig s[0] then numF (bl s) else if s[0] = 39 then textGo [] 1 ((bl s).drop 1) else signF (bl s) := by
  have h0 := bl_get s 0 h
  rw [List.drop_zero] at h0
  rw [← take_run]
  conv => lhs; rw [h0]
  simp only [tokF]
  rw [← h0]
theorem token_results {W : World} {k : Nat} {n0 n1 n3 n e : Int} {s2 : ByteArray} (R : Row W k 28 [.int .i64 n0, .int .i64 n1, .string s2, .int .i64 n3]) {tmps : Array Value}
    (h2 : tmps.getD 2 undef = .pointer (some ⟨k, 0, none⟩)) (h3 : tmps.getD 3 undef = .int .i64 n) (h4 : tmps.getD 4 undef = .int .i64 e) :
    (results Try.f34 tmps).run Try.prog W = .ok (.tuple #[.agg #[.int .i64 n0, .int .i64 n1, .string s2, .int .i64 n3], .int .i64 n, .int .i64 e]) W := by
  have d0 : W.cell? ⟨k, 0, none⟩ = some (.int .i64 n0) := R.cell 0
  have d1 : W.cell? ⟨k, 1, none⟩ = some (.int .i64 n1) := R.cell 1
  have d2 : W.cell? ⟨k, 2, none⟩ = some (.string s2) := R.cell 2
  have d3 : W.cell? ⟨k, 3, none⟩ = some (.int .i64 n3) := R.cell 3
  simp at h2 h3 h4
  simp [results, Try.results34, h2, h3, h4, go_sem, d0, d1, d2, d3]
/-- The four cells of a token's variable, as the walk asks them. -/
theorem tok_cells {w : World} {g : Nat} {a b c d : Value} (h : Row w g 28 [a, b, c, d]) :
    w.cell? ⟨g, 0, none⟩ = some a ∧ w.cell? ⟨g, 1, none⟩ = some b ∧ w.cell? ⟨g, 2, none⟩ = some c ∧ w.cell? ⟨g, 3, none⟩ = some d ∧
    w.frozen? ⟨g, 0, none⟩ = false ∧ w.frozen? ⟨g, 1, none⟩ = false ∧ w.frozen? ⟨g, 2, none⟩ = false ∧ w.frozen? ⟨g, 3, none⟩ = false :=
  ⟨h.cell 0, h.cell 1, h.cell 2, h.cell 3, h.frozen 0, h.frozen 1, h.frozen 2, h.frozen 3⟩
theorem isBlank_eq (c : UInt8) : isBlank c = (decide ((c.toNat : Int) = 9) || decide ((c.toNat : Int) = 10) || decide ((c.toNat : Int) = 13) || decide ((c.toNat : Int) = 32)) := by
  have := u8_all (p := fun c => isBlank c == (decide ((c.toNat : Int) = 9) || decide ((c.toNat : Int) = 10) || decide ((c.toNat : Int) = 13) || decide ((c.toNat : Int) = 32))) (by decide +kernel) c
  simpa using this
set_option maxHeartbeats 1000000 in
theorem lextoken_blank (s : ByteArray) (w : World) (hs : s.size ≤ 100000) (h0 : 0 < s.size) (hb : isBlank s[0] = true) :
    Calls Try.prog 34 #[.string s] w (TokP (tokF (bl s)) w) := by
  have K : tokF (bl s) = ⟨⟨0, [], 0⟩, 1, 0⟩ := by rw [tokF_eq s h0, if_pos hb]
  have HK := Lib.hid K
  have hI := isBlank_eq s[0]
  rw [hb] at hI
  simp at hI
  clear K hb
  by_cases c9 : (s[0].toNat : Int) = 9
  · go_enter Try.func34, Try.ntmps34
    go_wp2
    rw [HK.out]
    exact bodyPost_ret (v := .tuple #[.agg #[.int .i64 0, .int .i64 0, .string ⟨#[]⟩, .int .i64 0], .int .i64 1, .int .i64 0]) (by simp [results, Try.results34, go_sem]) rfl ⟨rfl, (Same.refl _ _).alloc _⟩
  · have e9 : ((s[0].toNat : Int) == 9) = false := by simpa using c9
    by_cases c10 : (s[0].toNat : Int) = 10
    · clear c9
      clear hI
      go_enter Try.func34, Try.ntmps34
      go_wp2
      rw [HK.out]
      exact bodyPost_ret (v := .tuple #[.agg #[.int .i64 0, .int .i64 0, .string ⟨#[]⟩, .int .i64 0], .int .i64 1, .int .i64 0]) (by simp [results, Try.results34, go_sem]) rfl ⟨rfl, (Same.refl _ _).alloc _⟩
    · have e10 : ((s[0].toNat : Int) == 10) = false := by simpa using c10
      by_cases c13 : (s[0].toNat : Int) = 13
      · clear c10
        clear hI
        go_enter Try.func34, Try.ntmps34
        go_wp2
        rw [HK.out]
        exact bodyPost_ret (v := .tuple #[.agg #[.int .i64 0, .int .i64 0, .string ⟨#[]⟩, .int .i64 0], .int .i64 1, .int .i64 0]) (by simp [results, Try.results34, go_sem]) rfl ⟨rfl, (Same.refl _ _).alloc _⟩
      · have e13 : ((s[0].toNat : Int) == 13) = false := by simpa using c13
        have c32 : (s[0].toNat : Int) = 32 := by omega
        clear hI c9 c10 c13
        go_enter Try.func34, Try.ntmps34
        go_wp2
        rw [HK.out]
        exact bodyPost_ret (v := .tuple #[.agg #[.int .i64 0, .int .i64 0, .string ⟨#[]⟩, .int .i64 0], .int .i64 1, .int .i64 0]) (by simp [results, Try.results34, go_sem]) rfl ⟨rfl, (Same.refl _ _).alloc _⟩
theorem noBlank {c : UInt8} (h : isBlank c = false) : ((c.toNat : Int) == 9) = false ∧ ((c.toNat : Int) == 10) = false ∧ ((c.toNat : Int) == 13) = false ∧ ((c.toNat : Int) == 32) = false := by
  rw [isBlank_eq] at h
  simp at h ⊢
  omega
theorem let_any {c : UInt8} {b : Bool} (h : isLet c = b) (w : World) : Calls Try.prog 57 #[.int .u8 (n8 c)] w fun e w' => e = .returned (.bool b) ∧ w = w' := by
  subst h; exact lexletter_any c w
theorem digit_any {c : UInt8} {b : Bool} (h : isDig c = b) (w : World) : Calls Try.prog 37 #[.int .u8 (n8 c)] w fun e w' => e = .returned (.bool b) ∧ w = w' := by
  subst h; exact lexdigit_any c w
set_option maxHeartbeats 1000000 in
theorem lextoken_word (s : ByteArray) (w : World) (hs : s.size ≤ 100000) (h0 : 0 < s.size) (hb : isBlank s[0] = false) (hl : isLet s[0] = true) :
    Calls Try.prog 34 #[.string s] w (TokP (tokF (bl s)) w) := by
  have K : tokF (bl s) = ⟨⟨1, ((bl s).take (runF isWordy (bl s))).map upB, 0⟩, runF isWordy (bl s), 0⟩ := by rw [tokF_eq s h0, hb, hl]; rfl
  have HK := Lib.hid K
  obtain ⟨d1, d2, d3, d4⟩ := noBlank hb
  have g := let_any hl
  have hn := runF_le isWordy (bl s)
  rw [bl_len] at hn
  have hn' : ((runF isWordy (bl s) : Nat) : Int) ≤ (s.size : Int) := by omega
  have hr0 := Row.new w 28 [.int .i64 0, .int .i64 0, .string ⟨#[]⟩, .int .i64 0]
  have Hr0 := Lib.hid hr0
  clear K hb hl hr0
  go_enter Try.func34, Try.ntmps34
  go_wp2_with (first | (go_at_call 57; refine (g _).mono ?_; rintro e w' ⟨rfl, rfl⟩) | (go_at_call 38; refine (lexrunw_any s _ (by unfold maxLen; omega)).mono ?_; rintro e w' ⟨rfl, rfl⟩) | (go_at_call 40; refine stopAt ?_))
  unfold Hid
  rw [ext_take]
  refine (lexupper_any _ _ (by rw [show (str ((bl s).take (runF isWordy (bl s)))).size = _ from str_size _, List.length_take]; omega)).mono ?_
  rintro e w1 ⟨rfl, hS⟩
  have hr1 := Hr0.out.keep hS trivial
  have hS1 : Same (fun _ => True) w w1 := ((Same.refl _ _).alloc _).trans hS
  have Hr1 := Lib.hid hr1
  have HS1 := Lib.hid hS1
  obtain ⟨a0, a1, a2, a3, f0, f1, f2, f3⟩ := tok_cells hr1
  clear hr1 hS1 hS
  go_wp2
  rw [HK.out]
  obtain ⟨r1, r2⟩ := tok_set4 Hr1.out HS1.out
  refine bodyPost_ret (token_results r1 rfl rfl rfl) rfl ⟨?_, r2⟩
  rw [bl_str]; rfl
set_option maxHeartbeats 1000000 in
theorem lextoken_num (s : ByteArray) (w : World) (hs : s.size ≤ 100000) (h0 : 0 < s.size) (hb : isBlank s[0] = false) (hl : isLet s[0] = false) (hd : isDig s[0] = true) :
    Calls Try.prog 34 #[.string s] w (TokP (tokF (bl s)) w) := by
  have K : tokF (bl s) = numF (bl s) := by rw [tokF_eq s h0, hb, hl, hd]; rfl
  have HK := Lib.hid K
  obtain ⟨d1, d2, d3, d4⟩ := noBlank hb
  have g := let_any hl
  have g2 := digit_any hd
  have hr0 := Row.new w 28 [.int .i64 0, .int .i64 0, .string ⟨#[]⟩, .int .i64 0]
  have Hr0 := Lib.hid hr0
  clear K hb hl hd hr0
  go_enter Try.func34, Try.ntmps34
  go_wp2_with (first | (go_at_call 57; refine (g _).mono ?_; rintro e w' ⟨rfl, rfl⟩) | (go_at_call 37; refine (g2 _).mono ?_; rintro e w' ⟨rfl, rfl⟩) | (go_at_call 58; refine stopAt ?_))
  unfold Hid
  refine (lexnumber_any s _ hs).mono ?_
  rintro e w1 ⟨rfl, hS⟩
  have hr1 := Hr0.out.keep hS trivial
  have hS1 : Same (fun _ => True) w w1 := ((Same.refl _ _).alloc _).trans hS
  have Hr1 := Lib.hid hr1
  have HS1 := Lib.hid hS1
  obtain ⟨a0, a1, a2, a3, f0, f1, f2, f3⟩ := tok_cells hr1
  clear hr1 hS1 hS
  go_wp2
  rw [HK.out]
  obtain ⟨r1, r2⟩ := tok_set4 Hr1.out HS1.out
  exact bodyPost_ret (token_results r1 rfl rfl rfl) rfl ⟨rfl, r2⟩
set_option maxHeartbeats 1000000 in
theorem lextoken_text (s : ByteArray) (w : World) (hs : s.size ≤ 100000) (h0 : 0 < s.size) (hb : isBlank s[0] = false) (hl : isLet s[0] = false) (hd : isDig s[0] = false) (hq : s[0] = 39) :
    Calls Try.prog 34 #[.string s] w (TokP (tokF (bl s)) w) := by
  obtain ⟨R, hR⟩ : ∃ R, R = textGo [] 1 ((bl s).drop 1) := ⟨_, rfl⟩
  have K : tokF (bl s) = R := by rw [hR, tokF_eq s h0, hb, hl, hd, if_neg (by decide), if_neg (by decide), if_neg (by decide), if_pos hq]
  have HK := Lib.hid K
  obtain ⟨d1, d2, d3, d4⟩ := noBlank hb
  obtain ⟨q1, -⟩ := byte_is 39 hq
  simp only [show (((39 : UInt8).toNat : Nat) : Int) = 39 from rfl] at q1
  have g := let_any hl
  have g2 := digit_any hd
  have hr0 := Row.new w 28 [.int .i64 0, .int .i64 0, .string ⟨#[]⟩, .int .i64 0]
  have Hr0 := Lib.hid hr0
  have HR := Lib.hid hR
  clear K hb hl hd hr0 hq hR
  go_enter Try.func34, Try.ntmps34
  go_wp2_with (first | (go_at_call 57; refine (g _).mono ?_; rintro e w' ⟨rfl, rfl⟩) | (go_at_call 37; refine (g2 _).mono ?_; rintro e w' ⟨rfl, rfl⟩) | (go_at_call 59; refine stopAt ?_))
  unfold Hid
  refine (lextext_any s _ hs h0 R HR.out).mono ?_
  rintro e w1 ⟨rfl, hS⟩
  have hr1 := Hr0.out.keep hS trivial
  have hS1 : Same (fun _ => True) w w1 := ((Same.refl _ _).alloc _).trans hS
  have Hr1 := Lib.hid hr1
  have HS1 := Lib.hid hS1
  obtain ⟨a0, a1, a2, a3, f0, f1, f2, f3⟩ := tok_cells hr1
  clear hr1 hS1 hS
  go_wp2
  rw [HK.out]
  obtain ⟨r1, r2⟩ := tok_set4 Hr1.out HS1.out
  exact bodyPost_ret (token_results r1 rfl rfl rfl) rfl ⟨rfl, r2⟩
set_option maxHeartbeats 1000000 in
theorem lextoken_sign (s : ByteArray) (w : World) (hs : s.size ≤ 100000) (h0 : 0 < s.size) (hb : isBlank s[0] = false) (hl : isLet s[0] = false) (hd : isDig s[0] = false) (hq : s[0] ≠ 39) :
    Calls Try.prog 34 #[.string s] w (TokP (tokF (bl s)) w) := by
  have K : tokF (bl s) = signF (bl s) := by rw [tokF_eq s h0, hb, hl, hd, if_neg (by decide), if_neg (by decide), if_neg (by decide), if_neg hq]
  have HK := Lib.hid K
  obtain ⟨d1, d2, d3, d4⟩ := noBlank hb
  obtain ⟨q1, -⟩ := byte_no 39 hq
  simp only [show (((39 : UInt8).toNat : Nat) : Int) = 39 from rfl] at q1
  have g := let_any hl
  have g2 := digit_any hd
  have hr0 := Row.new w 28 [.int .i64 0, .int .i64 0, .string ⟨#[]⟩, .int .i64 0]
  have Hr0 := Lib.hid hr0
  clear K hb hl hd hr0 hq
  go_enter Try.func34, Try.ntmps34
  go_wp2_with (first | (go_at_call 57; refine (g _).mono ?_; rintro e w' ⟨rfl, rfl⟩) | (go_at_call 37; refine (g2 _).mono ?_; rintro e w' ⟨rfl, rfl⟩) | (go_at_call 60; refine stopAt ?_))
  unfold Hid
  refine (lexsign_any s _ hs h0).mono ?_
  rintro e w1 ⟨rfl, hS⟩
  have hr1 := Hr0.out.keep hS trivial
  have hS1 : Same (fun _ => True) w w1 := ((Same.refl _ _).alloc _).trans hS
  have Hr1 := Lib.hid hr1
  have HS1 := Lib.hid hS1
  obtain ⟨a0, a1, a2, a3, f0, f1, f2, f3⟩ := tok_cells hr1
  clear hr1 hS1 hS
  go_wp2
  rw [HK.out]
  obtain ⟨r1, r2⟩ := tok_set4 Hr1.out HS1.out
  exact bodyPost_ret (token_results r1 rfl rfl rfl) rfl ⟨rfl, r2⟩
theorem lextoken_any (s : ByteArray) (w : World) (hs : s.size ≤ 100000) (h0 : 0 < s.size) :
    Calls Try.prog 34 #[.string s] w (TokP (tokF (bl s)) w) := by
  cases hb : isBlank s[0]
  · cases hl : isLet s[0]
    · cases hd : isDig s[0]
      · by_cases hq : s[0] = 39
        · exact lextoken_text s w hs h0 hb hl hd hq
        · exact lextoken_sign s w hs h0 hb hl hd hq
      · exact lextoken_num s w hs h0 hb hl hd
    · exact lextoken_word s w hs h0 hb hl
  · exact lextoken_blank s w hs h0 hb
end Go.Proofs.Ytcckifllammpbaa
