/-
  The walks of package lex's sign and token.
-/
import Derived.Test.YtcckifllammpbaaLexT
set_option linter.unusedSimpArgs false
set_option linter.unusedVariables false
namespace Go.Proofs.Ytcckifllammpbaa
open Go.RowKit

theorem ext_take (s : ByteArray) (n : Nat) : s.extract 0 n = str ((bl s).take n) := by
  apply ByteArray.ext
  rw [ByteArray.data_extract]
  apply Array.toList_inj.1
  show (s.data.extract 0 n).toList = s.data.toList.take n
  simp [Array.toList_extract, List.extract_eq_take_drop]
theorem ext_drop (s : ByteArray) (n : Nat) : s.extract n s.size = str ((bl s).drop n) := by
  apply ByteArray.ext
  rw [ByteArray.data_extract]
  apply Array.toList_inj.1
  show (s.data.extract n s.data.size).toList = s.data.toList.drop n
  rw [Array.toList_extract, List.extract_eq_take_drop, List.take_of_length_le (by simp)]
theorem bl_take1 (s : ByteArray) (h : 0 < s.size) : (bl s).take 1 = [s[0]] := by
  have := bl_get s 0 h
  rw [List.drop_zero] at this
  rw [this]; rfl
theorem bl_take2 (s : ByteArray) (h : 1 < s.size) : (bl s).take 2 = [s[0], s[1]] := by
  have h0 := bl_get s 0 (by omega)
  have h1 := bl_get s 1 h
  rw [List.drop_zero] at h0
  rw [h0, h1]; rfl
theorem signF_eq (s : ByteArray) (h : 0 < s.size) : signF (bl s) = if ∃ h1 : 1 < s.size, isTwo s[0] s[1] = true then ⟨⟨4, (bl s).take 2, 0⟩, 2, 0⟩ else if isSign s[0] then ⟨⟨4, (bl s).take 1, 0⟩, 1, 0⟩ else tErr 13 := by
  have h0 := bl_get s 0 h
  rw [List.drop_zero] at h0
  by_cases h1 : 1 < s.size
  · have h2 := bl_get s 1 h1
    rw [bl_take1 s h, bl_take2 s h1, h0, h2]
    simp only [signF]
    by_cases ht : isTwo s[0] s[1] = true
    · rw [if_pos ht, if_pos ⟨h1, ht⟩]
    · have hn : ¬ ∃ h1 : 1 < s.size, isTwo s[0] s[1] = true := fun ⟨_, h⟩ => ht h
      rw [if_neg ht, if_neg hn]
  · have h2 : (bl s).drop 1 = [] := List.drop_eq_nil_of_le (by rw [bl_len]; omega)
    rw [bl_take1 s h, h0, h2]
    simp only [signF]
    have hn : ¬ ∃ h1 : 1 < s.size, isTwo s[0] s[1] = true := fun ⟨h, _⟩ => h1 h
    rw [if_neg hn]
theorem isSign_eq (c : UInt8) : isSign c = (decide ((c.toNat : Int) = 40) || decide ((c.toNat : Int) = 41) || decide ((c.toNat : Int) = 44) || decide ((c.toNat : Int) = 59) || decide ((c.toNat : Int) = 42) || decide ((c.toNat : Int) = 61) || decide ((c.toNat : Int) = 60) || decide ((c.toNat : Int) = 62) || decide ((c.toNat : Int) = 43) || decide ((c.toNat : Int) = 45) || decide ((c.toNat : Int) = 47) || decide ((c.toNat : Int) = 37)) := by
  have := u8_all (p := fun c => isSign c == (decide ((c.toNat : Int) = 40) || decide ((c.toNat : Int) = 41) || decide ((c.toNat : Int) = 44) || decide ((c.toNat : Int) = 59) || decide ((c.toNat : Int) = 42) || decide ((c.toNat : Int) = 61) || decide ((c.toNat : Int) = 60) || decide ((c.toNat : Int) = 62) || decide ((c.toNat : Int) = 43) || decide ((c.toNat : Int) = 45) || decide ((c.toNat : Int) = 47) || decide ((c.toNat : Int) = 37))) (by decide +kernel) c
  simpa using this
set_option maxHeartbeats 1000000 in
theorem lexsign_ne (s : ByteArray) (w : World) (hs : s.size ≤ 100000) (h0 : 0 < s.size) (h1 : 1 < s.size) (ha : s[0] = 60) (hb : s[1] = 62) :
    Calls Try.prog 60 #[.string s] w (TokP (signF (bl s)) w) := by
  obtain ⟨a1, -⟩ := byte_is 60 ha
  simp only [show (((60 : UInt8).toNat : Nat) : Int) = 60 from rfl] at a1
  obtain ⟨b1, -⟩ := byte_is 62 hb
  simp only [show (((62 : UInt8).toNat : Nat) : Int) = 62 from rfl] at b1
  have K : signF (bl s) = ⟨⟨4, (bl s).take 2, 0⟩, 2, 0⟩ := by rw [signF_eq s h0]; rw [if_pos ⟨h1, by rw [ha, hb]; rfl⟩]
  have HK := Lib.hid K
  clear K ha hb
  go_enter Try.func60, Try.ntmps60
  go_wp2
  rw [HK.out]
  refine bodyPost_ret (v := .tuple #[.agg #[.int .i64 4, .int .i64 0, .string (s.extract 0 2), .int .i64 0], .int .i64 2, .int .i64 0]) (by simp [results, Try.results60, go_sem]) rfl ⟨?_, (Same.refl _ _).alloc _⟩
  rw [ext_take]; rfl
set_option maxHeartbeats 1000000 in
theorem lexsign_le (s : ByteArray) (w : World) (hs : s.size ≤ 100000) (h0 : 0 < s.size) (h1 : 1 < s.size) (ha : s[0] = 60) (hb : s[1] = 61) :
    Calls Try.prog 60 #[.string s] w (TokP (signF (bl s)) w) := by
  obtain ⟨a1, -⟩ := byte_is 60 ha
  simp only [show (((60 : UInt8).toNat : Nat) : Int) = 60 from rfl] at a1
  obtain ⟨b1, -⟩ := byte_is 61 hb
  simp only [show (((61 : UInt8).toNat : Nat) : Int) = 61 from rfl] at b1
  obtain ⟨b2, -⟩ := byte_no 62 (by rw [hb]; decide : s[1] ≠ 62)
  simp only [show (((62 : UInt8).toNat : Nat) : Int) = 62 from rfl] at b2
  have K : signF (bl s) = ⟨⟨4, (bl s).take 2, 0⟩, 2, 0⟩ := by rw [signF_eq s h0]; rw [if_pos ⟨h1, by rw [ha, hb]; rfl⟩]
  have HK := Lib.hid K
  clear K ha hb
  go_enter Try.func60, Try.ntmps60
  go_wp2
  rw [HK.out]
  refine bodyPost_ret (v := .tuple #[.agg #[.int .i64 4, .int .i64 0, .string (s.extract 0 2), .int .i64 0], .int .i64 2, .int .i64 0]) (by simp [results, Try.results60, go_sem]) rfl ⟨?_, (Same.refl _ _).alloc _⟩
  rw [ext_take]; rfl
set_option maxHeartbeats 1000000 in
theorem lexsign_lt (s : ByteArray) (w : World) (hs : s.size ≤ 100000) (h0 : 0 < s.size) (h1 : 1 < s.size) (ha : s[0] = 60) (hb : s[1] ≠ 62) (hc : s[1] ≠ 61) :
    Calls Try.prog 60 #[.string s] w (TokP (signF (bl s)) w) := by
  obtain ⟨a1, -⟩ := byte_is 60 ha
  simp only [show (((60 : UInt8).toNat : Nat) : Int) = 60 from rfl] at a1
  obtain ⟨b1, -⟩ := byte_no 61 hc
  simp only [show (((61 : UInt8).toNat : Nat) : Int) = 61 from rfl] at b1
  obtain ⟨b2, -⟩ := byte_no 62 hb
  simp only [show (((62 : UInt8).toNat : Nat) : Int) = 62 from rfl] at b2
  have K : signF (bl s) = ⟨⟨4, (bl s).take 1, 0⟩, 1, 0⟩ := by rw [signF_eq s h0]; rw [if_neg (fun ⟨_, h⟩ => by rw [ha] at h; simp [isTwo, hb, hc] at h), if_pos (by rw [ha]; rfl)]
  have HK := Lib.hid K
  clear K ha hb hc
  go_enter Try.func60, Try.ntmps60
  go_wp2
  rw [HK.out]
  refine bodyPost_ret (v := .tuple #[.agg #[.int .i64 4, .int .i64 0, .string (s.extract 0 1), .int .i64 0], .int .i64 1, .int .i64 0]) (by simp [results, Try.results60, go_sem]) rfl ⟨?_, (Same.refl _ _).alloc _⟩
  rw [ext_take]; rfl
set_option maxHeartbeats 1000000 in
theorem lexsign_lt1 (s : ByteArray) (w : World) (hs : s.size ≤ 100000) (h0 : 0 < s.size) (h1 : ¬ 1 < s.size) (ha : s[0] = 60) :
    Calls Try.prog 60 #[.string s] w (TokP (signF (bl s)) w) := by
  obtain ⟨a1, -⟩ := byte_is 60 ha
  simp only [show (((60 : UInt8).toNat : Nat) : Int) = 60 from rfl] at a1
  have K : signF (bl s) = ⟨⟨4, (bl s).take 1, 0⟩, 1, 0⟩ := by rw [signF_eq s h0]; rw [if_neg (fun ⟨h, _⟩ => h1 h), if_pos (by rw [ha]; rfl)]
  have HK := Lib.hid K
  clear K ha
  go_enter Try.func60, Try.ntmps60
  go_wp2
  rw [HK.out]
  refine bodyPost_ret (v := .tuple #[.agg #[.int .i64 4, .int .i64 0, .string (s.extract 0 1), .int .i64 0], .int .i64 1, .int .i64 0]) (by simp [results, Try.results60, go_sem]) rfl ⟨?_, (Same.refl _ _).alloc _⟩
  rw [ext_take]; rfl
set_option maxHeartbeats 1000000 in
theorem lexsign_ge (s : ByteArray) (w : World) (hs : s.size ≤ 100000) (h0 : 0 < s.size) (h1 : 1 < s.size) (ha : s[0] = 62) (hb : s[1] = 61) :
    Calls Try.prog 60 #[.string s] w (TokP (signF (bl s)) w) := by
  obtain ⟨a0, -⟩ := byte_no 60 (by rw [ha]; decide : s[0] ≠ 60)
  simp only [show (((60 : UInt8).toNat : Nat) : Int) = 60 from rfl] at a0
  obtain ⟨a1, -⟩ := byte_is 62 ha
  simp only [show (((62 : UInt8).toNat : Nat) : Int) = 62 from rfl] at a1
  obtain ⟨b1, -⟩ := byte_is 61 hb
  simp only [show (((61 : UInt8).toNat : Nat) : Int) = 61 from rfl] at b1
  have K : signF (bl s) = ⟨⟨4, (bl s).take 2, 0⟩, 2, 0⟩ := by rw [signF_eq s h0]; rw [if_pos ⟨h1, by rw [ha, hb]; rfl⟩]
  have HK := Lib.hid K
  clear K ha hb
  go_enter Try.func60, Try.ntmps60
  go_wp2
  rw [HK.out]
  refine bodyPost_ret (v := .tuple #[.agg #[.int .i64 4, .int .i64 0, .string (s.extract 0 2), .int .i64 0], .int .i64 2, .int .i64 0]) (by simp [results, Try.results60, go_sem]) rfl ⟨?_, (Same.refl _ _).alloc _⟩
  rw [ext_take]; rfl
set_option maxHeartbeats 1000000 in
theorem lexsign_gt (s : ByteArray) (w : World) (hs : s.size ≤ 100000) (h0 : 0 < s.size) (h1 : 1 < s.size) (ha : s[0] = 62) (hb : s[1] ≠ 61) :
    Calls Try.prog 60 #[.string s] w (TokP (signF (bl s)) w) := by
  obtain ⟨a0, -⟩ := byte_no 60 (by rw [ha]; decide : s[0] ≠ 60)
  simp only [show (((60 : UInt8).toNat : Nat) : Int) = 60 from rfl] at a0
  obtain ⟨a1, -⟩ := byte_is 62 ha
  simp only [show (((62 : UInt8).toNat : Nat) : Int) = 62 from rfl] at a1
  obtain ⟨b1, -⟩ := byte_no 61 hb
  simp only [show (((61 : UInt8).toNat : Nat) : Int) = 61 from rfl] at b1
  have K : signF (bl s) = ⟨⟨4, (bl s).take 1, 0⟩, 1, 0⟩ := by rw [signF_eq s h0]; rw [if_neg (fun ⟨_, h⟩ => by rw [ha] at h; simp [isTwo, hb] at h), if_pos (by rw [ha]; rfl)]
  have HK := Lib.hid K
  clear K ha hb
  go_enter Try.func60, Try.ntmps60
  go_wp2
  rw [HK.out]
  refine bodyPost_ret (v := .tuple #[.agg #[.int .i64 4, .int .i64 0, .string (s.extract 0 1), .int .i64 0], .int .i64 1, .int .i64 0]) (by simp [results, Try.results60, go_sem]) rfl ⟨?_, (Same.refl _ _).alloc _⟩
  rw [ext_take]; rfl
set_option maxHeartbeats 1000000 in
theorem lexsign_gt1 (s : ByteArray) (w : World) (hs : s.size ≤ 100000) (h0 : 0 < s.size) (h1 : ¬ 1 < s.size) (ha : s[0] = 62) :
    Calls Try.prog 60 #[.string s] w (TokP (signF (bl s)) w) := by
  obtain ⟨a0, -⟩ := byte_no 60 (by rw [ha]; decide : s[0] ≠ 60)
  simp only [show (((60 : UInt8).toNat : Nat) : Int) = 60 from rfl] at a0
  obtain ⟨a1, -⟩ := byte_is 62 ha
  simp only [show (((62 : UInt8).toNat : Nat) : Int) = 62 from rfl] at a1
  have K : signF (bl s) = ⟨⟨4, (bl s).take 1, 0⟩, 1, 0⟩ := by rw [signF_eq s h0]; rw [if_neg (fun ⟨h, _⟩ => h1 h), if_pos (by rw [ha]; rfl)]
  have HK := Lib.hid K
  clear K ha
  go_enter Try.func60, Try.ntmps60
  go_wp2
  rw [HK.out]
  refine bodyPost_ret (v := .tuple #[.agg #[.int .i64 4, .int .i64 0, .string (s.extract 0 1), .int .i64 0], .int .i64 1, .int .i64 0]) (by simp [results, Try.results60, go_sem]) rfl ⟨?_, (Same.refl _ _).alloc _⟩
  rw [ext_take]; rfl
set_option maxHeartbeats 2000000 in
theorem lexsign_else (s : ByteArray) (w : World) (hs : s.size ≤ 100000) (h0 : 0 < s.size) (ha : s[0] ≠ 60) (hb : s[0] ≠ 62) :
    Calls Try.prog 60 #[.string s] w (TokP (signF (bl s)) w) := by
  have K : signF (bl s) = if isSign s[0] then ⟨⟨4, (bl s).take 1, 0⟩, 1, 0⟩ else tErr 13 := by
    rw [signF_eq s h0, if_neg (fun ⟨_, h⟩ => by simp [isTwo, ha, hb] at h)]
  have HK := Lib.hid K
  have hI := isSign_eq s[0]
  have HI := Lib.hid hI
  obtain ⟨a1, -⟩ := byte_no 60 ha
  simp only [show (((60 : UInt8).toNat : Nat) : Int) = 60 from rfl] at a1
  obtain ⟨a2, -⟩ := byte_no 62 hb
  simp only [show (((62 : UInt8).toNat : Nat) : Int) = 62 from rfl] at a2
  have a3 : ¬ ((s[0].toNat : Int) = 60) := by simpa using a1
  have a4 : ¬ ((s[0].toNat : Int) = 62) := by simpa using a2
  clear K hI ha hb
  by_cases c1 : (s[0].toNat : Int) = 40 ∨ (s[0].toNat : Int) = 41 ∨ (s[0].toNat : Int) = 44 ∨ (s[0].toNat : Int) = 59 ∨ (s[0].toNat : Int) = 42 ∨ (s[0].toNat : Int) = 61 ∨ (s[0].toNat : Int) = 43 ∨ (s[0].toNat : Int) = 45 ∨ (s[0].toNat : Int) = 47 ∨ (s[0].toNat : Int) = 37
  · have hsg : isSign s[0] = true := by
      rw [HI.out]
      rcases c1 with h | h | h | h | h | h | h | h | h | h <;> simp [h]
    have HS := Lib.hid hsg
    clear hsg HI
    rcases c1 with h | h | h | h | h | h | h | h | h | h
    all_goals
      go_enter Try.func60, Try.ntmps60
      go_wp2
      rw [HK.out, if_pos HS.out]
      refine bodyPost_ret (v := .tuple #[.agg #[.int .i64 4, .int .i64 0, .string (s.extract 0 1), .int .i64 0], .int .i64 1, .int .i64 0]) (by simp [results, Try.results60, go_sem]) rfl ⟨?_, (Same.refl _ _).alloc _⟩
      rw [ext_take]; rfl
  · have hno : isSign s[0] = false := by
      rw [HI.out]
      simp only [not_or] at c1
      simp [c1, a3, a4]
    have HS := Lib.hid hno
    clear hno HI
    simp only [not_or] at c1
    obtain ⟨c1, c2, c3, c4, c5, c6, c7, c8, c9, c10⟩ := c1
    have d1 : ((s[0].toNat : Int) == 40) = false := by simpa using c1
    have d2 : ((s[0].toNat : Int) == 41) = false := by simpa using c2
    have d3 : ((s[0].toNat : Int) == 44) = false := by simpa using c3
    have d4 : ((s[0].toNat : Int) == 59) = false := by simpa using c4
    have d5 : ((s[0].toNat : Int) == 42) = false := by simpa using c5
    have d6 : ((s[0].toNat : Int) == 61) = false := by simpa using c6
    have d7 : ((s[0].toNat : Int) == 43) = false := by simpa using c7
    have d8 : ((s[0].toNat : Int) == 45) = false := by simpa using c8
    have d9 : ((s[0].toNat : Int) == 47) = false := by simpa using c9
    have d10 : ((s[0].toNat : Int) == 37) = false := by simpa using c10
    clear c1 c2 c3 c4 c5 c6 c7 c8 c9 c10
    go_enter Try.func60, Try.ntmps60
    go_wp2
    rw [HK.out, HS.out]
    exact bodyPost_ret (v := .tuple #[.agg #[.int .i64 0, .int .i64 0, .string ⟨#[]⟩, .int .i64 0], .int .i64 0, .int .i64 13]) (by simp [results, Try.results60, go_sem]) rfl ⟨rfl, (Same.refl _ _).alloc _⟩
theorem lexsign_any (s : ByteArray) (w : World) (hs : s.size ≤ 100000) (h0 : 0 < s.size) :
    Calls Try.prog 60 #[.string s] w (TokP (signF (bl s)) w) := by
  by_cases ha : s[0] = 60
  · by_cases h1 : 1 < s.size
    · by_cases hb : s[1] = 62
      · exact lexsign_ne s w hs h0 h1 ha hb
      · by_cases hc : s[1] = 61
        · exact lexsign_le s w hs h0 h1 ha hc
        · exact lexsign_lt s w hs h0 h1 ha hb hc
    · exact lexsign_lt1 s w hs h0 h1 ha
  · by_cases hd : s[0] = 62
    · by_cases h1 : 1 < s.size
      · by_cases hc : s[1] = 61
        · exact lexsign_ge s w hs h0 h1 hd hc
        · exact lexsign_gt s w hs h0 h1 hd hc
      · exact lexsign_gt1 s w hs h0 h1 hd
    · exact lexsign_else s w hs h0 ha hd
end Go.Proofs.Ytcckifllammpbaa

