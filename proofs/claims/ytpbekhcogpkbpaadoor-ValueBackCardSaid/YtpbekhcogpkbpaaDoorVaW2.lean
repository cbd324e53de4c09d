/-
  The walks of values' Plain, the program's and the document's.
-/
import Derived.Test.YtpbekhcogpkbpaaDoorVaW
set_option linter.unusedSimpArgs false
set_option linter.unusedVariables false
namespace Go.Proofs.YtpbekhcogpkbpaaDoor
open Go.RowKit

set_option maxRecDepth 100000 in
set_option maxHeartbeats 1000000 in
theorem plain_no (v : Val) (u : Value) (bs : List UInt8) (S : Nat → Prop) (w : World) (hu : By w S u bs) (hl : bs.length ≤ 100000) (hmay : mayV v = false) :
    Calls Tryd.prog 12 #[u, valV v] w (OwnPost bs w) := by
  have HU := Lib.hid hu
  obtain ⟨A, cap, rfl, hcap, hm, -⟩ := id hu
  unfold maxLen at hm
  clear hu
  go_enter Tryd.func12, Tryd.ntmps12
  go_wp2_with (at_builtin; refine stopAt ?_)
  unfold Hid
  refine wpList_appL rfl (.tmp 6) (.tmp 7) rfl rfl rfl (layFresh w _) (HU.out.keep ((((Same.refl _ _).alloc _).alloc _).mono fun _ _ _ => trivial)) (by simp) (by simp; omega) ?_
  intro u1 w1 hu1 hs1
  have hL1 := Lib.hid (layBox (v := v) (by simpa using hu1) hs1)
  obtain ⟨A1, cp1, rfl, -, -⟩ := hL1.out.own.form
  clear hu1 hs1
  have c0 := hL1.out.box.cell 0
  have c1 := hL1.out.box.cell 1
  have c2 := hL1.out.box.cell 2
  simp [valCs] at c0 c1 c2
  have hmy := exMay_any v w1
  rw [hmay] at hmy
  clear hmay
  go_wp2_with (go_at_call 16; refine hmy.mono ?_; rintro e w2 ⟨rfl, hs2⟩)
  go_ret
  exact (hL1.out.keepAll hs2).post
set_option maxRecDepth 100000 in
set_option maxHeartbeats 600000 in
theorem plain_0 (u : Value) (bs : List UInt8) (S : Nat → Prop) (w : World) (hu : By w S u bs) (hl : bs.length ≤ 100000) :
    Calls Tryd.prog 12 #[u, valV (⟨0, 0, []⟩ : Val)] w (OwnPost (bs ++ 0 :: []) w) := by
  obtain ⟨Z, hZ⟩ : ∃ Z, Z = bs ++ 0 :: [] := ⟨_, rfl⟩
  rw [← hZ]
  have HZ := Lib.hid hZ
  clear hZ
  have hmy := fun W => exMay_any (⟨0, 0, []⟩ : Val) W
  rw [show mayV (⟨0, 0, []⟩ : Val) = true from rfl] at hmy
  have HU := Lib.hid hu
  obtain ⟨A, cap, rfl, hcap, hm, -⟩ := id hu
  unfold maxLen at hm
  clear hu
  go_enter Tryd.func12, Tryd.ntmps12
  go_wp2_with (at_builtin; refine stopAt ?_)
  unfold Hid
  refine wpList_appL rfl (.tmp 6) (.tmp 7) rfl rfl rfl (layFresh w _) (HU.out.keep ((((Same.refl _ _).alloc _).alloc _).mono fun _ _ _ => trivial)) (by simp) (by simp; omega) ?_
  intro u1 w1 hu1 hs1
  have hL1 := Lib.hid (layBox (v := (⟨0, 0, []⟩ : Val)) (by simpa using hu1) hs1)
  obtain ⟨A1, cp1, rfl, -, -⟩ := hL1.out.own.form
  clear hu1 hs1
  have c0 := hL1.out.box.cell 0
  have c1 := hL1.out.box.cell 1
  have c2 := hL1.out.box.cell 2
  simp [valCs] at c0 c1 c2
  go_wp2_with (go_at_call 16; refine stopAt ?_)
  unfold Hid
  refine (hmy _).mono ?_
  rintro e w2 ⟨rfl, hs2⟩
  have hL2 := Lib.hid (hL1.out.keepAll hs2)
  clear c0 c1 c2
  have c0 := hL2.out.box.cell 0
  have c1 := hL2.out.box.cell 1
  have c2 := hL2.out.box.cell 2
  simp [valCs] at c0 c1 c2
  clear hmy
  go_wp2_with (at_builtin; refine stopAt ?_)
  unfold Hid
  have hb0 : Value.int .u8 0 = V8 0 := rfl
  rw [hb0]
  refine wpList_appB1 (bs := bs) (c := 0) rfl (.tmp 13) (.tmp 17) rfl rfl rfl hL2.out.own hL2.out.size (by omega) ?_
  intro u3 w3 hu3 hs3
  obtain ⟨ys, hys⟩ : ∃ ys, ys = bs ++ [0] := ⟨_, rfl⟩
  rw [← hys] at hu3
  have hL3 := Lib.hid (hL2.out.next hu3 hs3)
  have HYS := Lib.hid hys
  obtain ⟨L3, hL⟩ : ∃ L, ys.length = L := ⟨_, rfl⟩
  have hL3b : L3 ≤ 100001 := by rw [← hL, hys]; simp; omega
  have HLn := Lib.hid hL
  clear hL1 hL2 hu3 hs3 hs2 c0 c1 c2 hb0 hys hL
  obtain ⟨A3, cp3, rfl, -, hcp3⟩ := hL3.out.own.formN HLn.out
  unfold maxLen at hcp3
  have c0 := hL3.out.box.cell 0
  have c1 := hL3.out.box.cell 1
  have c2 := hL3.out.box.cell 2
  have hsz3 := hL3.out.size
  simp [valCs] at c0 c1 c2
  go_wp2
  go_ret
  rw [HZ.out, ← HYS.out]
  exact hL3.out.post
set_option maxRecDepth 100000 in
set_option maxHeartbeats 600000 in
theorem plain_1 (n : Int) (hn : n = 0 ∨ n = 1) (u : Value) (bs : List UInt8) (S : Nat → Prop) (w : World) (hu : By w S u bs) (hl : bs.length ≤ 100000) :
    Calls Tryd.prog 12 #[u, valV (⟨1, n, []⟩ : Val)] w (OwnPost (bs ++ 1 :: [UInt8.ofNat n.toNat]) w) := by
  obtain ⟨Z, hZ⟩ : ∃ Z, Z = bs ++ 1 :: [UInt8.ofNat n.toNat] := ⟨_, rfl⟩
  rw [← hZ]
  have HZ := Lib.hid hZ
  clear hZ
  have hmy := fun W => exMay_any (⟨1, n, []⟩ : Val) W
  rw [show mayV (⟨1, n, []⟩ : Val) = true from by rcases hn with rfl | rfl <;> rfl] at hmy
  have HU := Lib.hid hu
  obtain ⟨A, cap, rfl, hcap, hm, -⟩ := id hu
  unfold maxLen at hm
  clear hu
  go_enter Tryd.func12, Tryd.ntmps12
  go_wp2_with (at_builtin; refine stopAt ?_)
  unfold Hid
  refine wpList_appL rfl (.tmp 6) (.tmp 7) rfl rfl rfl (layFresh w _) (HU.out.keep ((((Same.refl _ _).alloc _).alloc _).mono fun _ _ _ => trivial)) (by simp) (by simp; omega) ?_
  intro u1 w1 hu1 hs1
  have hL1 := Lib.hid (layBox (v := (⟨1, n, []⟩ : Val)) (by simpa using hu1) hs1)
  obtain ⟨A1, cp1, rfl, -, -⟩ := hL1.out.own.form
  clear hu1 hs1
  have c0 := hL1.out.box.cell 0
  have c1 := hL1.out.box.cell 1
  have c2 := hL1.out.box.cell 2
  simp [valCs] at c0 c1 c2
  go_wp2_with (go_at_call 16; refine stopAt ?_)
  unfold Hid
  refine (hmy _).mono ?_
  rintro e w2 ⟨rfl, hs2⟩
  have hL2 := Lib.hid (hL1.out.keepAll hs2)
  clear c0 c1 c2
  have c0 := hL2.out.box.cell 0
  have c1 := hL2.out.box.cell 1
  have c2 := hL2.out.box.cell 2
  simp [valCs] at c0 c1 c2
  clear hmy
  go_wp2_with (at_builtin; refine stopAt ?_)
  unfold Hid
  have hb0 : Value.int .u8 1 = V8 1 := rfl
  rw [hb0]
  refine wpList_appB1 (bs := bs) (c := 1) rfl (.tmp 13) (.tmp 17) rfl rfl rfl hL2.out.own hL2.out.size (by omega) ?_
  intro u3 w3 hu3 hs3
  obtain ⟨ys, hys⟩ : ∃ ys, ys = bs ++ [1] := ⟨_, rfl⟩
  rw [← hys] at hu3
  have hL3 := Lib.hid (hL2.out.next hu3 hs3)
  have HYS := Lib.hid hys
  obtain ⟨L3, hL⟩ : ∃ L, ys.length = L := ⟨_, rfl⟩
  have hL3b : L3 ≤ 100001 := by rw [← hL, hys]; simp; omega
  have HLn := Lib.hid hL
  clear hL1 hL2 hu3 hs3 hs2 c0 c1 c2 hb0 hys hL
  obtain ⟨A3, cp3, rfl, -, hcp3⟩ := hL3.out.own.formN HLn.out
  unfold maxLen at hcp3
  have c0 := hL3.out.box.cell 0
  have c1 := hL3.out.box.cell 1
  have c2 := hL3.out.box.cell 2
  have hsz3 := hL3.out.size
  simp [valCs] at c0 c1 c2
  have hb : Value.int .u8 n = V8 (UInt8.ofNat n.toNat) := by rcases hn with rfl | rfl <;> rfl
  obtain ⟨c, hc⟩ : ∃ c, c = UInt8.ofNat n.toNat := ⟨_, rfl⟩
  rw [← hc] at hb
  have HB := Lib.hid hb
  have HC := Lib.hid hc
  have hn0 : 0 ≤ n ∧ n ≤ 1 := by omega
  clear hb hc hn
  go_wp2_with (at_builtin; refine stopAt ?_)
  unfold Hid
  rw [HB.out]
  refine wpList_appB1 (bs := ys) (c := c) rfl (.tmp 23) (.tmp 27) rfl rfl rfl hL3.out.own hsz3 (by rw [HLn.out]; omega) ?_
  intro u4 w4 hu4 hs4
  have hL4 := Lib.hid (hL3.out.next hu4 hs4)
  clear hL3 hu4 hs4
  go_wp2
  go_ret
  rw [HZ.out, ← HC.out, show bs ++ 1 :: [c] = ys ++ [c] by rw [HYS.out]; simp]
  exact hL4.out.post
set_option maxRecDepth 100000 in
set_option maxHeartbeats 600000 in
theorem plain_2 (n : Int) (hn : I64 n) (u : Value) (bs : List UInt8) (S : Nat → Prop) (w : World) (hu : By w S u bs) (hl : bs.length ≤ 100000) :
    Calls Tryd.prog 12 #[u, valV (⟨2, n, []⟩ : Val)] w (OwnPost (bs ++ 2 :: varL (zigN n)) w) := by
  obtain ⟨Z, hZ⟩ : ∃ Z, Z = bs ++ 2 :: varL (zigN n) := ⟨_, rfl⟩
  rw [← hZ]
  have HZ := Lib.hid hZ
  clear hZ
  have hmy := fun W => exMay_any (⟨2, n, []⟩ : Val) W
  rw [show mayV (⟨2, n, []⟩ : Val) = true from rfl] at hmy
  have HU := Lib.hid hu
  obtain ⟨A, cap, rfl, hcap, hm, -⟩ := id hu
  unfold maxLen at hm
  clear hu
  go_enter Tryd.func12, Tryd.ntmps12
  go_wp2_with (at_builtin; refine stopAt ?_)
  unfold Hid
  refine wpList_appL rfl (.tmp 6) (.tmp 7) rfl rfl rfl (layFresh w _) (HU.out.keep ((((Same.refl _ _).alloc _).alloc _).mono fun _ _ _ => trivial)) (by simp) (by simp; omega) ?_
  intro u1 w1 hu1 hs1
  have hL1 := Lib.hid (layBox (v := (⟨2, n, []⟩ : Val)) (by simpa using hu1) hs1)
  obtain ⟨A1, cp1, rfl, -, -⟩ := hL1.out.own.form
  clear hu1 hs1
  have c0 := hL1.out.box.cell 0
  have c1 := hL1.out.box.cell 1
  have c2 := hL1.out.box.cell 2
  simp [valCs] at c0 c1 c2
  go_wp2_with (go_at_call 16; refine stopAt ?_)
  unfold Hid
  refine (hmy _).mono ?_
  rintro e w2 ⟨rfl, hs2⟩
  have hL2 := Lib.hid (hL1.out.keepAll hs2)
  clear c0 c1 c2
  have c0 := hL2.out.box.cell 0
  have c1 := hL2.out.box.cell 1
  have c2 := hL2.out.box.cell 2
  simp [valCs] at c0 c1 c2
  clear hmy
  go_wp2_with (at_builtin; refine stopAt ?_)
  unfold Hid
  have hb0 : Value.int .u8 2 = V8 2 := rfl
  rw [hb0]
  refine wpList_appB1 (bs := bs) (c := 2) rfl (.tmp 13) (.tmp 17) rfl rfl rfl hL2.out.own hL2.out.size (by omega) ?_
  intro u3 w3 hu3 hs3
  obtain ⟨ys, hys⟩ : ∃ ys, ys = bs ++ [2] := ⟨_, rfl⟩
  rw [← hys] at hu3
  have hL3 := Lib.hid (hL2.out.next hu3 hs3)
  have HYS := Lib.hid hys
  obtain ⟨L3, hL⟩ : ∃ L, ys.length = L := ⟨_, rfl⟩
  have hL3b : L3 ≤ 100001 := by rw [← hL, hys]; simp; omega
  have HLn := Lib.hid hL
  clear hL1 hL2 hu3 hs3 hs2 c0 c1 c2 hb0 hys hL
  obtain ⟨A3, cp3, rfl, -, hcp3⟩ := hL3.out.own.formN HLn.out
  unfold maxLen at hcp3
  have c0 := hL3.out.box.cell 0
  have c1 := hL3.out.box.cell 1
  have c2 := hL3.out.box.cell 2
  have hsz3 := hL3.out.size
  simp [valCs] at c0 c1 c2
  have hvar := var_any _ _ (zigN n) _ w3 hL3.out.own.by_ (by rw [HLn.out]; omega) (zig_lt hn)
  go_wp2_with (first | (go_at_call 30; refine (zig_any n hn _).mono ?_; rintro e w' ⟨rfl, rfl⟩) | (go_at_call 29; refine stopAt ?_))
  unfold Hid
  refine hvar.mono ?_
  rintro e w4 ⟨u4, rfl, hu4, hs4⟩
  go_wp2
  go_ret
  rw [HZ.out, show bs ++ 2 :: varL (zigN n) = ys ++ varL (zigN n) by rw [HYS.out]; simp]
  exact ⟨_, rfl, hu4.lower (by omega), hL3.out.same.trans hs4⟩
set_option maxRecDepth 100000 in
set_option maxHeartbeats 600000 in
theorem plain_3 (s : List UInt8) (hs : s.length ≤ 64) (u : Value) (bs : List UInt8) (S : Nat → Prop) (w : World) (hu : By w S u bs) (hl : bs.length ≤ 100000) :
    Calls Tryd.prog 12 #[u, valV (⟨3, 0, s⟩ : Val)] w (OwnPost (bs ++ 3 :: textL s) w) := by
  obtain ⟨Z, hZ⟩ : ∃ Z, Z = bs ++ 3 :: textL s := ⟨_, rfl⟩
  rw [← hZ]
  have HZ := Lib.hid hZ
  clear hZ
  have hmy := fun W => exMay_any (⟨3, 0, s⟩ : Val) W
  rw [show mayV (⟨3, 0, s⟩ : Val) = true from by simp [mayV, hs]] at hmy
  have HU := Lib.hid hu
  obtain ⟨A, cap, rfl, hcap, hm, -⟩ := id hu
  unfold maxLen at hm
  clear hu
  go_enter Tryd.func12, Tryd.ntmps12
  go_wp2_with (at_builtin; refine stopAt ?_)
  unfold Hid
  refine wpList_appL rfl (.tmp 6) (.tmp 7) rfl rfl rfl (layFresh w _) (HU.out.keep ((((Same.refl _ _).alloc _).alloc _).mono fun _ _ _ => trivial)) (by simp) (by simp; omega) ?_
  intro u1 w1 hu1 hs1
  have hL1 := Lib.hid (layBox (v := (⟨3, 0, s⟩ : Val)) (by simpa using hu1) hs1)
  obtain ⟨A1, cp1, rfl, -, -⟩ := hL1.out.own.form
  clear hu1 hs1
  have c0 := hL1.out.box.cell 0
  have c1 := hL1.out.box.cell 1
  have c2 := hL1.out.box.cell 2
  simp [valCs] at c0 c1 c2
  go_wp2_with (go_at_call 16; refine stopAt ?_)
  unfold Hid
  refine (hmy _).mono ?_
  rintro e w2 ⟨rfl, hs2⟩
  have hL2 := Lib.hid (hL1.out.keepAll hs2)
  clear c0 c1 c2
  have c0 := hL2.out.box.cell 0
  have c1 := hL2.out.box.cell 1
  have c2 := hL2.out.box.cell 2
  simp [valCs] at c0 c1 c2
  clear hmy
  go_wp2_with (at_builtin; refine stopAt ?_)
  unfold Hid
  have hb0 : Value.int .u8 3 = V8 3 := rfl
  rw [hb0]
  refine wpList_appB1 (bs := bs) (c := 3) rfl (.tmp 13) (.tmp 17) rfl rfl rfl hL2.out.own hL2.out.size (by omega) ?_
  intro u3 w3 hu3 hs3
  obtain ⟨ys, hys⟩ : ∃ ys, ys = bs ++ [3] := ⟨_, rfl⟩
  rw [← hys] at hu3
  have hL3 := Lib.hid (hL2.out.next hu3 hs3)
  have HYS := Lib.hid hys
  obtain ⟨L3, hL⟩ : ∃ L, ys.length = L := ⟨_, rfl⟩
  have hL3b : L3 ≤ 100001 := by rw [← hL, hys]; simp; omega
  have HLn := Lib.hid hL
  clear hL1 hL2 hu3 hs3 hs2 c0 c1 c2 hb0 hys hL
  obtain ⟨A3, cp3, rfl, -, hcp3⟩ := hL3.out.own.formN HLn.out
  unfold maxLen at hcp3
  have c0 := hL3.out.box.cell 0
  have c1 := hL3.out.box.cell 1
  have c2 := hL3.out.box.cell 2
  have hsz3 := hL3.out.size
  simp [valCs] at c0 c1 c2
  have hsz : (str s).size = s.length := str_size s
  go_wp2_with (with_reducible refine stopConv rfl ?_)
  unfold Hid
  refine wpList_bytes rfl rfl Tryd.underlying9 Tryd.underlying22 Tryd.underlying5 (str s) rfl (by rw [hsz]; simp only [maxLen]; omega) ?_
  intro w4 c4 q4 more hrow hsq hsc hcm hs4 hlt4
  have hby := RowQ.by_ (l := s) (n := (str s).size) hrow hsz.symm hsc hcm
  have hL4 := Lib.hid (hL3.out.keepAll hs4)
  have htx := text_any _ _ _ s _ _ w4 hL4.out.own.by_ hby (by rw [HLn.out]; omega) (by omega)
  rw [hsz] at htx
  clear hL3 c0 c1 c2 hby hrow
  go_wp2_with (go_at_call 31; refine stopAt ?_)
  unfold Hid
  refine htx.mono ?_
  rintro e w5 ⟨u5, rfl, hu5, hs5⟩
  go_wp2
  go_ret
  rw [HZ.out, show bs ++ 3 :: textL s = ys ++ textL s by rw [HYS.out]; simp]
  exact ⟨_, rfl, hu5.lower (by have := hL4.out.size; omega), hL4.out.same.trans hs5⟩
theorem plain_any (v : Val) (u : Value) (bs : List UInt8) (S : Nat → Prop) (w : World) (hu : By w S u bs) (hl : bs.length ≤ 100000) (hn : I64 v.n) :
    Calls Tryd.prog 12 #[u, valV v] w (OwnPost (bs ++ plainL v) w) := by
  unfold plainL
  by_cases hm : v.May
  · rw [if_pos hm]
    obtain ⟨k, n, s⟩ := v
    rcases hm with ⟨hk, h1, h2⟩ | ⟨hk, h1, h2⟩ | ⟨hk, h2⟩ | ⟨hk, h1, h2⟩
    · simp only at hk h1 h2; subst hk h1 h2; exact plain_0 u bs S w hu hl
    · simp only at hk h1 h2; subst hk h2; exact plain_1 n h1 u bs S w hu hl
    · simp only at hk h2; subst hk h2; exact plain_2 n hn u bs S w hu hl
    · simp only at hk h1 h2; subst hk h1; exact plain_3 s h2 u bs S w hu hl
  · rw [if_neg hm, List.append_nil]
    exact plain_no v u bs S w hu hl (by cases h : mayV v with | false => rfl | true => exact absurd ((mayV_iff v).1 h) hm)
set_option maxRecDepth 100000 in
set_option maxHeartbeats 1000000 in
theorem refplain_no (v : Val) (u : Value) (bs : List UInt8) (S : Nat → Prop) (w : World) (hu : By w S u bs) (hl : bs.length ≤ 100000) (hmay : mayV v = false) :
    Calls Tryd.prog 14 #[u, valV v] w (OwnPost bs w) := by
  have HU := Lib.hid hu
  obtain ⟨A, cap, rfl, hcap, hm, -⟩ := id hu
  unfold maxLen at hm
  clear hu
  go_enter Tryd.func14, Tryd.ntmps14
  go_wp2_with (at_builtin; refine stopAt ?_)
  unfold Hid
  refine wpList_appL rfl (.tmp 6) (.tmp 7) rfl rfl rfl (layFresh w _) (HU.out.keep ((((Same.refl _ _).alloc _).alloc _).mono fun _ _ _ => trivial)) (by simp) (by simp; omega) ?_
  intro u1 w1 hu1 hs1
  have hL1 := Lib.hid (layBox (v := v) (by simpa using hu1) hs1)
  obtain ⟨A1, cp1, rfl, -, -⟩ := hL1.out.own.form
  clear hu1 hs1
  have c0 := hL1.out.box.cell 0
  have c1 := hL1.out.box.cell 1
  have c2 := hL1.out.box.cell 2
  simp [valCs] at c0 c1 c2
  have hmy := refMay_any v w1
  rw [hmay] at hmy
  clear hmay
  go_wp2_with (go_at_call 17; refine hmy.mono ?_; rintro e w2 ⟨rfl, hs2⟩)
  go_ret
  exact (hL1.out.keepAll hs2).post
set_option maxRecDepth 100000 in
set_option maxHeartbeats 600000 in
theorem refplain_0 (u : Value) (bs : List UInt8) (S : Nat → Prop) (w : World) (hu : By w S u bs) (hl : bs.length ≤ 100000) :
    Calls Tryd.prog 14 #[u, valV (⟨0, 0, []⟩ : Val)] w (OwnPost (bs ++ 0 :: []) w) := by
  obtain ⟨Z, hZ⟩ : ∃ Z, Z = bs ++ 0 :: [] := ⟨_, rfl⟩
  rw [← hZ]
  have HZ := Lib.hid hZ
  clear hZ
  have hmy := fun W => refMay_any (⟨0, 0, []⟩ : Val) W
  rw [show mayV (⟨0, 0, []⟩ : Val) = true from rfl] at hmy
  have HU := Lib.hid hu
  obtain ⟨A, cap, rfl, hcap, hm, -⟩ := id hu
  unfold maxLen at hm
  clear hu
  go_enter Tryd.func14, Tryd.ntmps14
  go_wp2_with (at_builtin; refine stopAt ?_)
  unfold Hid
  refine wpList_appL rfl (.tmp 6) (.tmp 7) rfl rfl rfl (layFresh w _) (HU.out.keep ((((Same.refl _ _).alloc _).alloc _).mono fun _ _ _ => trivial)) (by simp) (by simp; omega) ?_
  intro u1 w1 hu1 hs1
  have hL1 := Lib.hid (layBox (v := (⟨0, 0, []⟩ : Val)) (by simpa using hu1) hs1)
  obtain ⟨A1, cp1, rfl, -, -⟩ := hL1.out.own.form
  clear hu1 hs1
  have c0 := hL1.out.box.cell 0
  have c1 := hL1.out.box.cell 1
  have c2 := hL1.out.box.cell 2
  simp [valCs] at c0 c1 c2
  go_wp2_with (go_at_call 17; refine stopAt ?_)
  unfold Hid
  refine (hmy _).mono ?_
  rintro e w2 ⟨rfl, hs2⟩
  have hL2 := Lib.hid (hL1.out.keepAll hs2)
  clear c0 c1 c2
  have c0 := hL2.out.box.cell 0
  have c1 := hL2.out.box.cell 1
  have c2 := hL2.out.box.cell 2
  simp [valCs] at c0 c1 c2
  clear hmy
  go_wp2_with (at_builtin; refine stopAt ?_)
  unfold Hid
  have hb0 : Value.int .u8 0 = V8 0 := rfl
  rw [hb0]
  refine wpList_appB1 (bs := bs) (c := 0) rfl (.tmp 13) (.tmp 17) rfl rfl rfl hL2.out.own hL2.out.size (by omega) ?_
  intro u3 w3 hu3 hs3
  obtain ⟨ys, hys⟩ : ∃ ys, ys = bs ++ [0] := ⟨_, rfl⟩
  rw [← hys] at hu3
  have hL3 := Lib.hid (hL2.out.next hu3 hs3)
  have HYS := Lib.hid hys
  obtain ⟨L3, hL⟩ : ∃ L, ys.length = L := ⟨_, rfl⟩
  have hL3b : L3 ≤ 100001 := by rw [← hL, hys]; simp; omega
  have HLn := Lib.hid hL
  clear hL1 hL2 hu3 hs3 hs2 c0 c1 c2 hb0 hys hL
  obtain ⟨A3, cp3, rfl, -, hcp3⟩ := hL3.out.own.formN HLn.out
  unfold maxLen at hcp3
  have c0 := hL3.out.box.cell 0
  have c1 := hL3.out.box.cell 1
  have c2 := hL3.out.box.cell 2
  have hsz3 := hL3.out.size
  simp [valCs] at c0 c1 c2
  go_wp2
  go_ret
  rw [HZ.out, ← HYS.out]
  exact hL3.out.post
set_option maxRecDepth 100000 in
set_option maxHeartbeats 600000 in
theorem refplain_1 (n : Int) (hn : n = 0 ∨ n = 1) (u : Value) (bs : List UInt8) (S : Nat → Prop) (w : World) (hu : By w S u bs) (hl : bs.length ≤ 100000) :
    Calls Tryd.prog 14 #[u, valV (⟨1, n, []⟩ : Val)] w (OwnPost (bs ++ 1 :: [UInt8.ofNat n.toNat]) w) := by
  obtain ⟨Z, hZ⟩ : ∃ Z, Z = bs ++ 1 :: [UInt8.ofNat n.toNat] := ⟨_, rfl⟩
  rw [← hZ]
  have HZ := Lib.hid hZ
  clear hZ
  have hmy := fun W => refMay_any (⟨1, n, []⟩ : Val) W
  rw [show mayV (⟨1, n, []⟩ : Val) = true from by rcases hn with rfl | rfl <;> rfl] at hmy
  have HU := Lib.hid hu
  obtain ⟨A, cap, rfl, hcap, hm, -⟩ := id hu
  unfold maxLen at hm
  clear hu
  go_enter Tryd.func14, Tryd.ntmps14
  go_wp2_with (at_builtin; refine stopAt ?_)
  unfold Hid
  refine wpList_appL rfl (.tmp 6) (.tmp 7) rfl rfl rfl (layFresh w _) (HU.out.keep ((((Same.refl _ _).alloc _).alloc _).mono fun _ _ _ => trivial)) (by simp) (by simp; omega) ?_
  intro u1 w1 hu1 hs1
  have hL1 := Lib.hid (layBox (v := (⟨1, n, []⟩ : Val)) (by simpa using hu1) hs1)
  obtain ⟨A1, cp1, rfl, -, -⟩ := hL1.out.own.form
  clear hu1 hs1
  have c0 := hL1.out.box.cell 0
  have c1 := hL1.out.box.cell 1
  have c2 := hL1.out.box.cell 2
  simp [valCs] at c0 c1 c2
  go_wp2_with (go_at_call 17; refine stopAt ?_)
  unfold Hid
  refine (hmy _).mono ?_
  rintro e w2 ⟨rfl, hs2⟩
  have hL2 := Lib.hid (hL1.out.keepAll hs2)
  clear c0 c1 c2
  have c0 := hL2.out.box.cell 0
  have c1 := hL2.out.box.cell 1
  have c2 := hL2.out.box.cell 2
  simp [valCs] at c0 c1 c2
  clear hmy
  go_wp2_with (at_builtin; refine stopAt ?_)
  unfold Hid
  have hb0 : Value.int .u8 1 = V8 1 := rfl
  rw [hb0]
  refine wpList_appB1 (bs := bs) (c := 1) rfl (.tmp 13) (.tmp 17) rfl rfl rfl hL2.out.own hL2.out.size (by omega) ?_
  intro u3 w3 hu3 hs3
  obtain ⟨ys, hys⟩ : ∃ ys, ys = bs ++ [1] := ⟨_, rfl⟩
  rw [← hys] at hu3
  have hL3 := Lib.hid (hL2.out.next hu3 hs3)
  have HYS := Lib.hid hys
  obtain ⟨L3, hL⟩ : ∃ L, ys.length = L := ⟨_, rfl⟩
  have hL3b : L3 ≤ 100001 := by rw [← hL, hys]; simp; omega
  have HLn := Lib.hid hL
  clear hL1 hL2 hu3 hs3 hs2 c0 c1 c2 hb0 hys hL
  obtain ⟨A3, cp3, rfl, -, hcp3⟩ := hL3.out.own.formN HLn.out
  unfold maxLen at hcp3
  have c0 := hL3.out.box.cell 0
  have c1 := hL3.out.box.cell 1
  have c2 := hL3.out.box.cell 2
  have hsz3 := hL3.out.size
  simp [valCs] at c0 c1 c2
  have hb : Value.int .u8 n = V8 (UInt8.ofNat n.toNat) := by rcases hn with rfl | rfl <;> rfl
  obtain ⟨c, hc⟩ : ∃ c, c = UInt8.ofNat n.toNat := ⟨_, rfl⟩
  rw [← hc] at hb
  have HB := Lib.hid hb
  have HC := Lib.hid hc
  have hn0 : 0 ≤ n ∧ n ≤ 1 := by omega
  clear hb hc hn
  go_wp2_with (at_builtin; refine stopAt ?_)
  unfold Hid
  rw [HB.out]
  refine wpList_appB1 (bs := ys) (c := c) rfl (.tmp 23) (.tmp 27) rfl rfl rfl hL3.out.own hsz3 (by rw [HLn.out]; omega) ?_
  intro u4 w4 hu4 hs4
  have hL4 := Lib.hid (hL3.out.next hu4 hs4)
  clear hL3 hu4 hs4
  go_wp2
  go_ret
  rw [HZ.out, ← HC.out, show bs ++ 1 :: [c] = ys ++ [c] by rw [HYS.out]; simp]
  exact hL4.out.post
set_option maxRecDepth 100000 in
set_option maxHeartbeats 600000 in
theorem refplain_2 (n : Int) (hn : I64 n) (u : Value) (bs : List UInt8) (S : Nat → Prop) (w : World) (hu : By w S u bs) (hl : bs.length ≤ 100000) :
    Calls Tryd.prog 14 #[u, valV (⟨2, n, []⟩ : Val)] w (OwnPost (bs ++ 2 :: varL (zigN n)) w) := by
  obtain ⟨Z, hZ⟩ : ∃ Z, Z = bs ++ 2 :: varL (zigN n) := ⟨_, rfl⟩
  rw [← hZ]
  have HZ := Lib.hid hZ
  clear hZ
  have hmy := fun W => refMay_any (⟨2, n, []⟩ : Val) W
  rw [show mayV (⟨2, n, []⟩ : Val) = true from rfl] at hmy
  have HU := Lib.hid hu
  obtain ⟨A, cap, rfl, hcap, hm, -⟩ := id hu
  unfold maxLen at hm
  clear hu
  go_enter Tryd.func14, Tryd.ntmps14
  go_wp2_with (at_builtin; refine stopAt ?_)
  unfold Hid
  refine wpList_appL rfl (.tmp 6) (.tmp 7) rfl rfl rfl (layFresh w _) (HU.out.keep ((((Same.refl _ _).alloc _).alloc _).mono fun _ _ _ => trivial)) (by simp) (by simp; omega) ?_
  intro u1 w1 hu1 hs1
  have hL1 := Lib.hid (layBox (v := (⟨2, n, []⟩ : Val)) (by simpa using hu1) hs1)
  obtain ⟨A1, cp1, rfl, -, -⟩ := hL1.out.own.form
  clear hu1 hs1
  have c0 := hL1.out.box.cell 0
  have c1 := hL1.out.box.cell 1
  have c2 := hL1.out.box.cell 2
  simp [valCs] at c0 c1 c2
  go_wp2_with (go_at_call 17; refine stopAt ?_)
  unfold Hid
  refine (hmy _).mono ?_
  rintro e w2 ⟨rfl, hs2⟩
  have hL2 := Lib.hid (hL1.out.keepAll hs2)
  clear c0 c1 c2
  have c0 := hL2.out.box.cell 0
  have c1 := hL2.out.box.cell 1
  have c2 := hL2.out.box.cell 2
  simp [valCs] at c0 c1 c2
  clear hmy
  go_wp2_with (at_builtin; refine stopAt ?_)
  unfold Hid
  have hb0 : Value.int .u8 2 = V8 2 := rfl
  rw [hb0]
  refine wpList_appB1 (bs := bs) (c := 2) rfl (.tmp 13) (.tmp 17) rfl rfl rfl hL2.out.own hL2.out.size (by omega) ?_
  intro u3 w3 hu3 hs3
  obtain ⟨ys, hys⟩ : ∃ ys, ys = bs ++ [2] := ⟨_, rfl⟩
  rw [← hys] at hu3
  have hL3 := Lib.hid (hL2.out.next hu3 hs3)
  have HYS := Lib.hid hys
  obtain ⟨L3, hL⟩ : ∃ L, ys.length = L := ⟨_, rfl⟩
  have hL3b : L3 ≤ 100001 := by rw [← hL, hys]; simp; omega
  have HLn := Lib.hid hL
  clear hL1 hL2 hu3 hs3 hs2 c0 c1 c2 hb0 hys hL
  obtain ⟨A3, cp3, rfl, -, hcp3⟩ := hL3.out.own.formN HLn.out
  unfold maxLen at hcp3
  have c0 := hL3.out.box.cell 0
  have c1 := hL3.out.box.cell 1
  have c2 := hL3.out.box.cell 2
  have hsz3 := hL3.out.size
  simp [valCs] at c0 c1 c2
  have hvar := refvar_any _ _ (zigN n) _ w3 hL3.out.own.by_ (by rw [HLn.out]; omega) (zig_lt hn)
  go_wp2_with (first | (go_at_call 35; refine (refzig_any n hn _).mono ?_; rintro e w' ⟨rfl, rfl⟩) | (go_at_call 34; refine stopAt ?_))
  unfold Hid
  refine hvar.mono ?_
  rintro e w4 ⟨u4, rfl, hu4, hs4⟩
  go_wp2
  go_ret
  rw [HZ.out, show bs ++ 2 :: varL (zigN n) = ys ++ varL (zigN n) by rw [HYS.out]; simp]
  exact ⟨_, rfl, hu4.lower (by omega), hL3.out.same.trans hs4⟩
set_option maxRecDepth 100000 in
set_option maxHeartbeats 600000 in
theorem refplain_3 (s : List UInt8) (hs : s.length ≤ 64) (u : Value) (bs : List UInt8) (S : Nat → Prop) (w : World) (hu : By w S u bs) (hl : bs.length ≤ 100000) :
    Calls Tryd.prog 14 #[u, valV (⟨3, 0, s⟩ : Val)] w (OwnPost (bs ++ 3 :: textL s) w) := by
  obtain ⟨Z, hZ⟩ : ∃ Z, Z = bs ++ 3 :: textL s := ⟨_, rfl⟩
  rw [← hZ]
  have HZ := Lib.hid hZ
  clear hZ
  have hmy := fun W => refMay_any (⟨3, 0, s⟩ : Val) W
  rw [show mayV (⟨3, 0, s⟩ : Val) = true from by simp [mayV, hs]] at hmy
  have HU := Lib.hid hu
  obtain ⟨A, cap, rfl, hcap, hm, -⟩ := id hu
  unfold maxLen at hm
  clear hu
  go_enter Tryd.func14, Tryd.ntmps14
  go_wp2_with (at_builtin; refine stopAt ?_)
  unfold Hid
  refine wpList_appL rfl (.tmp 6) (.tmp 7) rfl rfl rfl (layFresh w _) (HU.out.keep ((((Same.refl _ _).alloc _).alloc _).mono fun _ _ _ => trivial)) (by simp) (by simp; omega) ?_
  intro u1 w1 hu1 hs1
  have hL1 := Lib.hid (layBox (v := (⟨3, 0, s⟩ : Val)) (by simpa using hu1) hs1)
  obtain ⟨A1, cp1, rfl, -, -⟩ := hL1.out.own.form
  clear hu1 hs1
  have c0 := hL1.out.box.cell 0
  have c1 := hL1.out.box.cell 1
  have c2 := hL1.out.box.cell 2
  simp [valCs] at c0 c1 c2
  go_wp2_with (go_at_call 17; refine stopAt ?_)
  unfold Hid
  refine (hmy _).mono ?_
  rintro e w2 ⟨rfl, hs2⟩
  have hL2 := Lib.hid (hL1.out.keepAll hs2)
  clear c0 c1 c2
  have c0 := hL2.out.box.cell 0
  have c1 := hL2.out.box.cell 1
  have c2 := hL2.out.box.cell 2
  simp [valCs] at c0 c1 c2
  clear hmy
  go_wp2_with (at_builtin; refine stopAt ?_)
  unfold Hid
  have hb0 : Value.int .u8 3 = V8 3 := rfl
  rw [hb0]
  refine wpList_appB1 (bs := bs) (c := 3) rfl (.tmp 13) (.tmp 17) rfl rfl rfl hL2.out.own hL2.out.size (by omega) ?_
  intro u3 w3 hu3 hs3
  obtain ⟨ys, hys⟩ : ∃ ys, ys = bs ++ [3] := ⟨_, rfl⟩
  rw [← hys] at hu3
  have hL3 := Lib.hid (hL2.out.next hu3 hs3)
  have HYS := Lib.hid hys
  obtain ⟨L3, hL⟩ : ∃ L, ys.length = L := ⟨_, rfl⟩
  have hL3b : L3 ≤ 100001 := by rw [← hL, hys]; simp; omega
  have HLn := Lib.hid hL
  clear hL1 hL2 hu3 hs3 hs2 c0 c1 c2 hb0 hys hL
  obtain ⟨A3, cp3, rfl, -, hcp3⟩ := hL3.out.own.formN HLn.out
  unfold maxLen at hcp3
  have c0 := hL3.out.box.cell 0
  have c1 := hL3.out.box.cell 1
  have c2 := hL3.out.box.cell 2
  have hsz3 := hL3.out.size
  simp [valCs] at c0 c1 c2
  have hsz : (str s).size = s.length := str_size s
  go_wp2_with (with_reducible refine stopConv rfl ?_)
  unfold Hid
  refine wpList_bytes rfl rfl Tryd.underlying9 Tryd.underlying22 Tryd.underlying5 (str s) rfl (by rw [hsz]; simp only [maxLen]; omega) ?_
  intro w4 c4 q4 more hrow hsq hsc hcm hs4 hlt4
  have hby := RowQ.by_ (l := s) (n := (str s).size) hrow hsz.symm hsc hcm
  have hL4 := Lib.hid (hL3.out.keepAll hs4)
  have htx := reftext_any _ _ _ s _ _ w4 hL4.out.own.by_ hby (by rw [HLn.out]; omega) (by omega)
  rw [hsz] at htx
  clear hL3 c0 c1 c2 hby hrow
  go_wp2_with (go_at_call 36; refine stopAt ?_)
  unfold Hid
  refine htx.mono ?_
  rintro e w5 ⟨u5, rfl, hu5, hs5⟩
  go_wp2
  go_ret
  rw [HZ.out, show bs ++ 3 :: textL s = ys ++ textL s by rw [HYS.out]; simp]
  exact ⟨_, rfl, hu5.lower (by have := hL4.out.size; omega), hL4.out.same.trans hs5⟩
theorem refplain_any (v : Val) (u : Value) (bs : List UInt8) (S : Nat → Prop) (w : World) (hu : By w S u bs) (hl : bs.length ≤ 100000) (hn : I64 v.n) :
    Calls Tryd.prog 14 #[u, valV v] w (OwnPost (bs ++ plainL v) w) := by
  unfold plainL
  by_cases hm : v.May
  · rw [if_pos hm]
    obtain ⟨k, n, s⟩ := v
    rcases hm with ⟨hk, h1, h2⟩ | ⟨hk, h1, h2⟩ | ⟨hk, h2⟩ | ⟨hk, h1, h2⟩
    · simp only at hk h1 h2; subst hk h1 h2; exact refplain_0 u bs S w hu hl
    · simp only at hk h1 h2; subst hk h2; exact refplain_1 n h1 u bs S w hu hl
    · simp only at hk h2; subst hk h2; exact refplain_2 n hn u bs S w hu hl
    · simp only at hk h1 h2; subst hk h1; exact refplain_3 s h2 u bs S w hu hl
  · rw [if_neg hm, List.append_nil]
    exact refplain_no v u bs S w hu hl (by cases h : mayV v with | false => rfl | true => exact absurd ((mayV_iff v).1 h) hm)
end Go.Proofs.YtpbekhcogpkbpaaDoor
