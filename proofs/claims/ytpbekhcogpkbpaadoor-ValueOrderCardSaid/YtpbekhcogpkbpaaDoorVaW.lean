/-
  The walks of values' Key and Plain, the program's and the document's.
-/
import Derived.Test.YtpbekhcogpkbpaaDoorVaC
import Derived.Test.YtpbekhcogpkbpaaDoorVaB5
set_option linter.unusedSimpArgs false
set_option linter.unusedVariables false
namespace Go.Proofs.YtpbekhcogpkbpaaDoor
open Go.RowKit

theorem refeight_any (x : Nat) (w : World) (hx : x < 2 ^ 64) : Calls Tryd.prog 32 #[.int .u64 x] w (OwnPost (putN 8 x) w) := by
  have hp := refput_any (.slice none 0 0) [] x 8 (fun _ => True) w ⟨none, 0, rfl, by simp, by simp [maxLen], Sl.nil _ _ _ _⟩ (by simp) (by omega) (by simpa using hx)
  rw [List.nil_append] at hp
  go_enter Tryd.func32, Tryd.ntmps32
  go_wp2_with (go_at_call 60; refine hp.mono ?_; rintro e w1 ⟨u, rfl, hu, hs⟩)
  go_ret
  exact ⟨_, rfl, hu, hs⟩
/-- What holds of the row that is laid, behind the box. -/
structure LayIn (w wr : World) (v : Val) (u : Value) (bs : List UInt8) : Prop where
  box : Row wr w.heap.size 24 (valCs v)
  own : OwnB wr (w.heap.size + 1) u bs
  same : Same (fun _ => True) w wr
theorem LayIn.keepAll {w wr W : World} {v : Val} {u : Value} {bs : List UInt8} (h : LayIn w wr v u bs) (hs : Same (fun _ => True) wr W) : LayIn w W v u bs := ⟨h.box.keep hs trivial, h.own.keepAll hs, h.same.trans hs⟩
theorem LayIn.next {w wr W : World} {v : Val} {u u' : Value} {bs bs' : List UInt8} (h : LayIn w wr v u bs) (ho : OwnB W (w.heap.size + 1) u' bs') (hs : Same (fun k => k < w.heap.size + 1) wr W) : LayIn w W v u' bs' := ⟨h.box.keep hs (by omega), ho, h.same.trans' hs fun k hk _ => by omega⟩
theorem LayIn.post {w wr : World} {v : Val} {u : Value} {bs : List UInt8} (h : LayIn w wr v u bs) : OwnPost bs w (.returned u) wr := ⟨_, rfl, h.own.lower (by omega), h.same⟩
theorem LayIn.size {w wr : World} {v : Val} {u : Value} {bs : List UInt8} (h : LayIn w wr v u bs) : w.heap.size + 1 ≤ wr.heap.size := by have := h.box.lt; omega
theorem layFresh (w : World) (b : Obj) : OwnB ((w.alloc b).alloc (.cells #[] 5)) (w.heap.size + 1) (.slice (some ⟨w.heap.size + 1, 0, none⟩) 0 0) [] := by
  have h := OwnB.fresh (w := w.alloc b) (B := w.heap.size + 1) (by rw [size_alloc1]; exact Nat.le_refl _)
  rw [size_alloc1] at h
  exact h
theorem layBox {w w1 : World} {v : Val} {u : Value} {bs : List UInt8} (ho : OwnB w1 (w.heap.size + 1) u bs) (hs : Same (fun k => k < w.heap.size + 1) ((w.alloc (.cells #[.int .i64 v.kind, .int .i64 v.n, .string (str v.s)] 24)).alloc (.cells #[] 5)) w1) : LayIn w w1 v u bs :=
  ⟨(((Row.new w 24 (valCs v)).keep ((Same.refl (fun _ => True) _).alloc _) trivial)).keep hs (by omega), ho, (((Same.refl _ _).alloc _).alloc _).trans' hs fun k hk _ => by omega⟩
theorem escL_app : ∀ a b : List UInt8, escL (a ++ b) = escL a ++ escL b
  | [], b => rfl
  | c :: a, b => by
    by_cases h : c = 0
    · have e : ∀ x, escL (c :: x) = 0 :: 255 :: escL x := fun x => by simp [escL, h]
      rw [List.cons_append, e, e, escL_app a b]; rfl
    · have e : ∀ x, escL (c :: x) = c :: escL x := fun x => by simp [escL, h]
      rw [List.cons_append, e, e, escL_app a b]; rfl
theorem escL_len : ∀ a : List UInt8, (escL a).length ≤ 2 * a.length
  | [] => by simp [escL]
  | c :: a => by
    have := escL_len a
    by_cases h : c = 0
    · simp [escL, h]; omega
    · simp [escL, h]; omega
theorem escL_take {s : List UInt8} {k : Nat} {c : UInt8} (h : k < s.length) (hc : c = s[k]) : escL (s.take (k + 1)) = escL (s.take k) ++ (if c = 0 then [0, 255] else [c]) := by
  rw [List.take_succ_eq_append_getElem h, escL_app, ← hc]
  rfl
set_option maxRecDepth 100000 in
set_option maxHeartbeats 1000000 in
theorem key_no (v : Val) (u : Value) (bs : List UInt8) (S : Nat → Prop) (w : World) (hu : By w S u bs) (hl : bs.length ≤ 100000) (hmay : mayV v = false) :
    Calls Tryd.prog 11 #[u, valV v] w (OwnPost bs w) := by
  have HU := Lib.hid hu
  obtain ⟨A, cap, rfl, hcap, hm, -⟩ := id hu
  unfold maxLen at hm
  clear hu
  go_enter Tryd.func11, Tryd.ntmps11
  go_wp2_with (at_builtin; refine stopAt ?_)
  unfold Hid
  refine wpList_appL rfl (.tmp 7) (.tmp 8) rfl rfl rfl (layFresh w _) (HU.out.keep ((((Same.refl _ _).alloc _).alloc _).mono fun _ _ _ => trivial)) (by simp) (by simp; omega) ?_
  intro u1 w1 hu1 hs1
  have hL1 := Lib.hid (layBox (v := v) (by simpa using hu1) hs1)
  obtain ⟨A1, cp1, rfl, -, -⟩ := hL1.out.own.form
  clear hu1 hs1
  have c0 := hL1.out.box.cell 0
  have c1 := hL1.out.box.cell 1
  have c2 := hL1.out.box.cell 2
  simp [valCs] at c0 c1 c2
  have hmy := exMay_any v w1
  rw [hmay] at hmy
  clear hmay
  go_wp2_with (go_at_call 16; refine hmy.mono ?_; rintro e w2 ⟨rfl, hs2⟩)
  go_ret
  exact (hL1.out.keepAll hs2).post
set_option maxRecDepth 100000 in
set_option maxHeartbeats 2000000 in
theorem key_0 (u : Value) (bs : List UInt8) (S : Nat → Prop) (w : World) (hu : By w S u bs) (hl : bs.length ≤ 100000) :
    Calls Tryd.prog 11 #[u, valV (⟨0, 0, []⟩ : Val)] w (OwnPost (bs ++ 0 :: []) w) := by
  obtain ⟨Z, hZ⟩ : ∃ Z, Z = bs ++ 0 :: [] := ⟨_, rfl⟩
  rw [← hZ]
  have HZ := Lib.hid hZ
  clear hZ
  have hmy := fun W => exMay_any (⟨0, 0, []⟩ : Val) W
  rw [show mayV (⟨0, 0, []⟩ : Val) = true from rfl] at hmy
  have HU := Lib.hid hu
  obtain ⟨A, cap, rfl, hcap, hm, -⟩ := id hu
  unfold maxLen at hm
  clear hu
  go_enter Tryd.func11, Tryd.ntmps11
  go_wp2_with (at_builtin; refine stopAt ?_)
  unfold Hid
  refine wpList_appL rfl (.tmp 7) (.tmp 8) rfl rfl rfl (layFresh w _) (HU.out.keep ((((Same.refl _ _).alloc _).alloc _).mono fun _ _ _ => trivial)) (by simp) (by simp; omega) ?_
  intro u1 w1 hu1 hs1
  have hL1 := Lib.hid (layBox (v := (⟨0, 0, []⟩ : Val)) (by simpa using hu1) hs1)
  obtain ⟨A1, cp1, rfl, -, -⟩ := hL1.out.own.form
  clear hu1 hs1
  have c0 := hL1.out.box.cell 0
  have c1 := hL1.out.box.cell 1
  have c2 := hL1.out.box.cell 2
  simp [valCs] at c0 c1 c2
  go_wp2_with (go_at_call 16; refine stopAt ?_)
  unfold Hid
  refine (hmy _).mono ?_
  rintro e w2 ⟨rfl, hs2⟩
  have hL2 := Lib.hid (hL1.out.keepAll hs2)
  clear c0 c1 c2
  have c0 := hL2.out.box.cell 0
  have c1 := hL2.out.box.cell 1
  have c2 := hL2.out.box.cell 2
  simp [valCs] at c0 c1 c2
  clear hmy
  go_wp2_with (at_builtin; refine stopAt ?_)
  unfold Hid
  have hb0 : Value.int .u8 0 = V8 0 := rfl
  rw [hb0]
  refine wpList_appB1 (bs := bs) (c := 0) rfl (.tmp 14) (.tmp 18) rfl rfl rfl hL2.out.own hL2.out.size (by omega) ?_
  intro u3 w3 hu3 hs3
  obtain ⟨ys, hys⟩ : ∃ ys, ys = bs ++ [0] := ⟨_, rfl⟩
  rw [← hys] at hu3
  have hL3 := Lib.hid (hL2.out.next hu3 hs3)
  have HYS := Lib.hid hys
  obtain ⟨L3, hL⟩ : ∃ L, ys.length = L := ⟨_, rfl⟩
  have hL3b : L3 ≤ 100001 := by rw [← hL, hys]; simp; omega
  have HLn := Lib.hid hL
  clear hL1 hL2 hu3 hs3 hs2 c0 c1 c2 hb0 hys hL
  obtain ⟨A3, cp3, rfl, -, hcp3⟩ := hL3.out.own.formN HLn.out
  unfold maxLen at hcp3
  have c0 := hL3.out.box.cell 0
  have c1 := hL3.out.box.cell 1
  have c2 := hL3.out.box.cell 2
  have hsz3 := hL3.out.size
  simp [valCs] at c0 c1 c2
  go_wp2
  go_ret
  rw [HZ.out, ← HYS.out]
  exact hL3.out.post
set_option maxRecDepth 100000 in
set_option maxHeartbeats 2000000 in
theorem key_1 (n : Int) (hn : n = 0 ∨ n = 1) (u : Value) (bs : List UInt8) (S : Nat → Prop) (w : World) (hu : By w S u bs) (hl : bs.length ≤ 100000) :
    Calls Tryd.prog 11 #[u, valV (⟨1, n, []⟩ : Val)] w (OwnPost (bs ++ 1 :: [UInt8.ofNat n.toNat]) w) := by
  obtain ⟨Z, hZ⟩ : ∃ Z, Z = bs ++ 1 :: [UInt8.ofNat n.toNat] := ⟨_, rfl⟩
  rw [← hZ]
  have HZ := Lib.hid hZ
  clear hZ
  have hmy := fun W => exMay_any (⟨1, n, []⟩ : Val) W
  rw [show mayV (⟨1, n, []⟩ : Val) = true from by rcases hn with rfl | rfl <;> rfl] at hmy
  have HU := Lib.hid hu
  obtain ⟨A, cap, rfl, hcap, hm, -⟩ := id hu
  unfold maxLen at hm
  clear hu
  go_enter Tryd.func11, Tryd.ntmps11
  go_wp2_with (at_builtin; refine stopAt ?_)
  unfold Hid
  refine wpList_appL rfl (.tmp 7) (.tmp 8) rfl rfl rfl (layFresh w _) (HU.out.keep ((((Same.refl _ _).alloc _).alloc _).mono fun _ _ _ => trivial)) (by simp) (by simp; omega) ?_
  intro u1 w1 hu1 hs1
  have hL1 := Lib.hid (layBox (v := (⟨1, n, []⟩ : Val)) (by simpa using hu1) hs1)
  obtain ⟨A1, cp1, rfl, -, -⟩ := hL1.out.own.form
  clear hu1 hs1
  have c0 := hL1.out.box.cell 0
  have c1 := hL1.out.box.cell 1
  have c2 := hL1.out.box.cell 2
  simp [valCs] at c0 c1 c2
  go_wp2_with (go_at_call 16; refine stopAt ?_)
  unfold Hid
  refine (hmy _).mono ?_
  rintro e w2 ⟨rfl, hs2⟩
  have hL2 := Lib.hid (hL1.out.keepAll hs2)
  clear c0 c1 c2
  have c0 := hL2.out.box.cell 0
  have c1 := hL2.out.box.cell 1
  have c2 := hL2.out.box.cell 2
  simp [valCs] at c0 c1 c2
  clear hmy
  go_wp2_with (at_builtin; refine stopAt ?_)
  unfold Hid
  have hb0 : Value.int .u8 1 = V8 1 := rfl
  rw [hb0]
  refine wpList_appB1 (bs := bs) (c := 1) rfl (.tmp 14) (.tmp 18) rfl rfl rfl hL2.out.own hL2.out.size (by omega) ?_
  intro u3 w3 hu3 hs3
  obtain ⟨ys, hys⟩ : ∃ ys, ys = bs ++ [1] := ⟨_, rfl⟩
  rw [← hys] at hu3
  have hL3 := Lib.hid (hL2.out.next hu3 hs3)
  have HYS := Lib.hid hys
  obtain ⟨L3, hL⟩ : ∃ L, ys.length = L := ⟨_, rfl⟩
  have hL3b : L3 ≤ 100001 := by rw [← hL, hys]; simp; omega
  have HLn := Lib.hid hL
  clear hL1 hL2 hu3 hs3 hs2 c0 c1 c2 hb0 hys hL
  obtain ⟨A3, cp3, rfl, -, hcp3⟩ := hL3.out.own.formN HLn.out
  unfold maxLen at hcp3
  have c0 := hL3.out.box.cell 0
  have c1 := hL3.out.box.cell 1
  have c2 := hL3.out.box.cell 2
  have hsz3 := hL3.out.size
  simp [valCs] at c0 c1 c2
  have hb : Value.int .u8 n = V8 (UInt8.ofNat n.toNat) := by rcases hn with rfl | rfl <;> rfl
  obtain ⟨c, hc⟩ : ∃ c, c = UInt8.ofNat n.toNat := ⟨_, rfl⟩
  rw [← hc] at hb
  have HB := Lib.hid hb
  have HC := Lib.hid hc
  have hn0 : 0 ≤ n ∧ n ≤ 1 := by omega
  clear hb hc hn
  go_wp2_with (at_builtin; refine stopAt ?_)
  unfold Hid
  rw [HB.out]
  refine wpList_appB1 (bs := ys) (c := c) rfl (.tmp 24) (.tmp 28) rfl rfl rfl hL3.out.own hsz3 (by rw [HLn.out]; omega) ?_
  intro u4 w4 hu4 hs4
  have hL4 := Lib.hid (hL3.out.next hu4 hs4)
  clear hL3 hu4 hs4
  go_wp2
  go_ret
  rw [HZ.out, ← HC.out, show bs ++ 1 :: [c] = ys ++ [c] by rw [HYS.out]; simp]
  exact hL4.out.post
set_option maxRecDepth 100000 in
set_option maxHeartbeats 2000000 in
theorem key_2 (n : Int) (hn : I64 n) (u : Value) (bs : List UInt8) (S : Nat → Prop) (w : World) (hu : By w S u bs) (hl : bs.length ≤ 100000) :
    Calls Tryd.prog 11 #[u, valV (⟨2, n, []⟩ : Val)] w (OwnPost (bs ++ 2 :: putN 8 (ordN n)) w) := by
  obtain ⟨Z, hZ⟩ : ∃ Z, Z = bs ++ 2 :: putN 8 (ordN n) := ⟨_, rfl⟩
  rw [← hZ]
  have HZ := Lib.hid hZ
  clear hZ
  have hmy := fun W => exMay_any (⟨2, n, []⟩ : Val) W
  rw [show mayV (⟨2, n, []⟩ : Val) = true from rfl] at hmy
  have HU := Lib.hid hu
  obtain ⟨A, cap, rfl, hcap, hm, -⟩ := id hu
  unfold maxLen at hm
  clear hu
  go_enter Tryd.func11, Tryd.ntmps11
  go_wp2_with (at_builtin; refine stopAt ?_)
  unfold Hid
  refine wpList_appL rfl (.tmp 7) (.tmp 8) rfl rfl rfl (layFresh w _) (HU.out.keep ((((Same.refl _ _).alloc _).alloc _).mono fun _ _ _ => trivial)) (by simp) (by simp; omega) ?_
  intro u1 w1 hu1 hs1
  have hL1 := Lib.hid (layBox (v := (⟨2, n, []⟩ : Val)) (by simpa using hu1) hs1)
  obtain ⟨A1, cp1, rfl, -, -⟩ := hL1.out.own.form
  clear hu1 hs1
  have c0 := hL1.out.box.cell 0
  have c1 := hL1.out.box.cell 1
  have c2 := hL1.out.box.cell 2
  simp [valCs] at c0 c1 c2
  go_wp2_with (go_at_call 16; refine stopAt ?_)
  unfold Hid
  refine (hmy _).mono ?_
  rintro e w2 ⟨rfl, hs2⟩
  have hL2 := Lib.hid (hL1.out.keepAll hs2)
  clear c0 c1 c2
  have c0 := hL2.out.box.cell 0
  have c1 := hL2.out.box.cell 1
  have c2 := hL2.out.box.cell 2
  simp [valCs] at c0 c1 c2
  clear hmy
  go_wp2_with (at_builtin; refine stopAt ?_)
  unfold Hid
  have hb0 : Value.int .u8 2 = V8 2 := rfl
  rw [hb0]
  refine wpList_appB1 (bs := bs) (c := 2) rfl (.tmp 14) (.tmp 18) rfl rfl rfl hL2.out.own hL2.out.size (by omega) ?_
  intro u3 w3 hu3 hs3
  obtain ⟨ys, hys⟩ : ∃ ys, ys = bs ++ [2] := ⟨_, rfl⟩
  rw [← hys] at hu3
  have hL3 := Lib.hid (hL2.out.next hu3 hs3)
  have HYS := Lib.hid hys
  obtain ⟨L3, hL⟩ : ∃ L, ys.length = L := ⟨_, rfl⟩
  have hL3b : L3 ≤ 100001 := by rw [← hL, hys]; simp; omega
  have HLn := Lib.hid hL
  clear hL1 hL2 hu3 hs3 hs2 c0 c1 c2 hb0 hys hL
  obtain ⟨A3, cp3, rfl, -, hcp3⟩ := hL3.out.own.formN HLn.out
  unfold maxLen at hcp3
  have c0 := hL3.out.box.cell 0
  have c1 := hL3.out.box.cell 1
  have c2 := hL3.out.box.cell 2
  have hsz3 := hL3.out.size
  simp [valCs] at c0 c1 c2
  have hput := put_any _ _ (ordN n) 8 _ w3 hL3.out.own.by_ (by rw [HLn.out]; omega) (by omega) (ord_lt hn)
  go_wp2_with (first | (go_at_call 28; refine (order_any n hn _).mono ?_; rintro e w' ⟨rfl, rfl⟩) | (go_at_call 27; refine stopAt ?_))
  unfold Hid
  refine hput.mono ?_
  rintro e w4 ⟨u4, rfl, hu4, hs4⟩
  go_wp2
  go_ret
  rw [HZ.out, show bs ++ 2 :: putN 8 (ordN n) = ys ++ putN 8 (ordN n) by rw [HYS.out]; simp]
  exact ⟨_, rfl, hu4.lower (by omega), hL3.out.same.trans hs4⟩
set_option maxRecDepth 100000 in
set_option maxHeartbeats 2000000 in
theorem key_3 (s : List UInt8) (hs : s.length ≤ 64) (u : Value) (bs : List UInt8) (S : Nat → Prop) (w : World) (hu : By w S u bs) (hl : bs.length ≤ 100000) :
    Calls Tryd.prog 11 #[u, valV (⟨3, 0, s⟩ : Val)] w (OwnPost (bs ++ 3 :: (escL s ++ [0, 1])) w) := by
  obtain ⟨Z, hZ⟩ : ∃ Z, Z = bs ++ 3 :: (escL s ++ [0, 1]) := ⟨_, rfl⟩
  rw [← hZ]
  have HZ := Lib.hid hZ
  clear hZ
  have hmy := fun W => exMay_any (⟨3, 0, s⟩ : Val) W
  rw [show mayV (⟨3, 0, s⟩ : Val) = true from by simp [mayV, hs]] at hmy
  have HU := Lib.hid hu
  obtain ⟨A, cap, rfl, hcap, hm, -⟩ := id hu
  unfold maxLen at hm
  clear hu
  go_enter Tryd.func11, Tryd.ntmps11
  go_wp2_with (at_builtin; refine stopAt ?_)
  unfold Hid
  refine wpList_appL rfl (.tmp 7) (.tmp 8) rfl rfl rfl (layFresh w _) (HU.out.keep ((((Same.refl _ _).alloc _).alloc _).mono fun _ _ _ => trivial)) (by simp) (by simp; omega) ?_
  intro u1 w1 hu1 hs1
  have hL1 := Lib.hid (layBox (v := (⟨3, 0, s⟩ : Val)) (by simpa using hu1) hs1)
  obtain ⟨A1, cp1, rfl, -, -⟩ := hL1.out.own.form
  clear hu1 hs1
  have c0 := hL1.out.box.cell 0
  have c1 := hL1.out.box.cell 1
  have c2 := hL1.out.box.cell 2
  simp [valCs] at c0 c1 c2
  go_wp2_with (go_at_call 16; refine stopAt ?_)
  unfold Hid
  refine (hmy _).mono ?_
  rintro e w2 ⟨rfl, hs2⟩
  have hL2 := Lib.hid (hL1.out.keepAll hs2)
  clear c0 c1 c2
  have c0 := hL2.out.box.cell 0
  have c1 := hL2.out.box.cell 1
  have c2 := hL2.out.box.cell 2
  simp [valCs] at c0 c1 c2
  clear hmy
  go_wp2_with (at_builtin; refine stopAt ?_)
  unfold Hid
  have hb0 : Value.int .u8 3 = V8 3 := rfl
  rw [hb0]
  refine wpList_appB1 (bs := bs) (c := 3) rfl (.tmp 14) (.tmp 18) rfl rfl rfl hL2.out.own hL2.out.size (by omega) ?_
  intro u3 w3 hu3 hs3
  obtain ⟨ys, hys⟩ : ∃ ys, ys = bs ++ [3] := ⟨_, rfl⟩
  rw [← hys] at hu3
  have hL3 := Lib.hid (hL2.out.next hu3 hs3)
  have HYS := Lib.hid hys
  obtain ⟨L3, hL⟩ : ∃ L, ys.length = L := ⟨_, rfl⟩
  have hL3b : L3 ≤ 100001 := by rw [← hL, hys]; simp; omega
  have HLn := Lib.hid hL
  clear hL1 hL2 hu3 hs3 hs2 c0 c1 c2 hb0 hys hL
  obtain ⟨A3, cp3, rfl, -, hcp3⟩ := hL3.out.own.formN HLn.out
  unfold maxLen at hcp3
  have c0 := hL3.out.box.cell 0
  have c1 := hL3.out.box.cell 1
  have c2 := hL3.out.box.cell 2
  have hsz3 := hL3.out.size
  simp [valCs] at c0 c1 c2
  have hsz : (str s).size = s.length := str_size s
  go_wp2
  go_loopw [5, 45] (fun o vi wr => ∃ k : Nat, k ≤ s.length ∧ vi = .int .i64 k ∧ Hid (LayIn w wr ⟨3, 0, s⟩ o (ys ++ escL (s.take k)))) (fun _ vi _ => s.length - (intOf vi).toNat)
  case atStart => exact ⟨0, by omega, rfl, Lib.hid (by simpa [escL] using hL3.out)⟩
  case round =>
    obtain ⟨k, hk, rfl, hI⟩ := hrel
    clear hL3 c0 c1 c2
    obtain ⟨xs, hxs⟩ : ∃ xs, xs = ys ++ escL (s.take k) := ⟨_, rfl⟩
    rw [← hxs] at hI
    obtain ⟨L5, hL5⟩ : ∃ L, xs.length = L := ⟨_, rfl⟩
    have hL5b : L5 ≤ 100200 := by rw [← hL5, hxs, List.length_append, HLn.out]; have := escL_len (s.take k); have : (s.take k).length ≤ k := by simp; omega
                                  omega
    have HXS := Lib.hid hxs
    have HL5 := Lib.hid hL5
    clear hxs hL5
    obtain ⟨A5, cp5, rfl, -, hcp5⟩ := hI.out.own.formN HL5.out
    unfold maxLen at hcp5
    have c2 := hI.out.box.cell 2
    have hszr := hI.out.size
    simp [valCs] at c2
    by_cases hlt : k < s.length
    · have hltI : (k : Int) < (s.length : Int) := by omega
      have hkq : k < (str s).size := by rw [str_size]; exact hlt
      have hb : Value.int .u8 (((str s)[k].toNat : Nat) : Int) = V8 s[k] := rfl
      have hcz : (((str s)[k].toNat : Nat) : Int) = n8 s[k] := rfl
      obtain ⟨c, hc⟩ : ∃ c, c = s[k] := ⟨_, rfl⟩
      rw [← hc] at hb hcz
      have hes := escL_take hlt hc
      have HB := Lib.hid hb
      have HCZ := Lib.hid hcz
      have HES := Lib.hid hes
      clear hb hc hcz hes
      go_wp2_with (at_builtin; refine stopAt ?_)
      unfold Hid
      rw [HB.out]
      refine wpList_appB1 (bs := xs) (c := c) rfl (.tmp 48) (.tmp 53) rfl rfl rfl hI.out.own hszr (by rw [HL5.out]; omega) ?_
      intro u6 w6 hu6 hs6
      have hI6 := Lib.hid (hI.out.next hu6 hs6)
      clear hI hu6 hs6 c2
      obtain ⟨A6, cp6, rfl, -, hcp6⟩ := hI6.out.own.formN (n := L5 + 1) (by rw [List.length_append, HL5.out]; rfl)
      unfold maxLen at hcp6
      have c2 := hI6.out.box.cell 2
      have hszr6 := hI6.out.size
      simp [valCs] at c2
      by_cases hz : c = 0
      · have g1 : (((str s)[k].toNat : Nat) : Int) = 0 := by rw [HCZ.out, hz]; rfl
        have hb255 : Value.int .u8 255 = V8 255 := rfl
        have he : Hid (xs ++ [c] ++ [255] = ys ++ escL (s.take (k + 1))) := Lib.hid (by rw [HXS.out, HES.out, if_pos hz, hz]; simp)
        clear hz
        go_wp2_with (at_builtin; refine stopAt ?_)
        unfold Hid
        rw [hb255]
        refine wpList_appB1 (bs := xs ++ [c]) (c := 255) rfl (.tmp 60) (.tmp 61) rfl rfl rfl hI6.out.own hszr6 (by rw [List.length_append, HL5.out]; simp; omega) ?_
        intro u7 w7 hu7 hs7
        have hI7 := Lib.hid (hI6.out.next hu7 hs7)
        rw [he.out] at hI7
        clear hI6 hu7 hs7 c2 hb255
        go_wp2
        go_roundw
        case rel => exact ⟨k + 1, by omega, by go_num, hI7⟩
        case measure => simp [intOf]; omega
      · have g1 : ¬ (((str s)[k].toNat : Nat) : Int) = 0 := by rw [HCZ.out]; intro e; exact hz (UInt8.toNat_inj.1 (by unfold n8 at e; exact_mod_cast e))
        have he : Hid (xs ++ [c] = ys ++ escL (s.take (k + 1))) := Lib.hid (by rw [HXS.out, HES.out, if_neg hz]; simp)
        rw [he.out] at hI6
        clear hz
        go_wp2
        go_roundw
        case rel => exact ⟨k + 1, by omega, by go_num, hI6⟩
        case measure => simp [intOf]; omega
    · obtain rfl : k = s.length := by omega
      have hz : Z = xs ++ [0, 1] := by rw [HZ.out, HXS.out, HYS.out, List.take_length]; simp
      have HZ2 := Lib.hid hz
      clear hz hlt
      go_wp2_with (at_builtin; refine stopAt ?_)
      unfold Hid
      refine wpList_appL rfl (.tmp 64) (.tmp 65) rfl rfl rfl (hI.out.own.keepAll ((Same.refl _ _).alloc _)) (By.lit (S := fun _ => True) (bs := [0, 1]) (fr := (0, 0)) (e := 5) (heap_now rfl) trivial rfl (by omega) (by simp [maxLen])) (by simp; omega) (by rw [HL5.out]; simp; omega) ?_
      intro u8 w8 hu8 hs8
      have hI8 := Lib.hid ((hI.out.keepAll ((Same.refl _ _).alloc _)).next hu8 hs8)
      clear hI hu8 hs8 c2
      go_wp2
      go_ret
      rw [HZ2.out]
      exact hI8.out.post
theorem key_any (v : Val) (u : Value) (bs : List UInt8) (S : Nat → Prop) (w : World) (hu : By w S u bs) (hl : bs.length ≤ 100000) (hn : I64 v.n) :
    Calls Tryd.prog 11 #[u, valV v] w (OwnPost (bs ++ keyL v) w) := by
  unfold keyL
  by_cases hm : v.May
  · rw [if_pos hm]
    obtain ⟨k, n, s⟩ := v
    rcases hm with ⟨hk, h1, h2⟩ | ⟨hk, h1, h2⟩ | ⟨hk, h2⟩ | ⟨hk, h1, h2⟩
    · simp only at hk h1 h2; subst hk h1 h2; exact key_0 u bs S w hu hl
    · simp only at hk h1 h2; subst hk h2; exact key_1 n h1 u bs S w hu hl
    · simp only at hk h2; subst hk h2; exact key_2 n hn u bs S w hu hl
    · simp only at hk h1 h2; subst hk h1; exact key_3 s h2 u bs S w hu hl
  · rw [if_neg hm, List.append_nil]
    exact key_no v u bs S w hu hl (by cases h : mayV v with | false => rfl | true => exact absurd ((mayV_iff v).1 h) hm)
set_option maxRecDepth 100000 in
set_option maxHeartbeats 1000000 in
theorem refkey_no (v : Val) (u : Value) (bs : List UInt8) (S : Nat → Prop) (w : World) (hu : By w S u bs) (hl : bs.length ≤ 100000) (hmay : mayV v = false) :
    Calls Tryd.prog 13 #[u, valV v] w (OwnPost bs w) := by
  have HU := Lib.hid hu
  obtain ⟨A, cap, rfl, hcap, hm, -⟩ := id hu
  unfold maxLen at hm
  clear hu
  go_enter Tryd.func13, Tryd.ntmps13
  go_wp2_with (at_builtin; refine stopAt ?_)
  unfold Hid
  refine wpList_appL rfl (.tmp 7) (.tmp 8) rfl rfl rfl (layFresh w _) (HU.out.keep ((((Same.refl _ _).alloc _).alloc _).mono fun _ _ _ => trivial)) (by simp) (by simp; omega) ?_
  intro u1 w1 hu1 hs1
  have hL1 := Lib.hid (layBox (v := v) (by simpa using hu1) hs1)
  obtain ⟨A1, cp1, rfl, -, -⟩ := hL1.out.own.form
  clear hu1 hs1
  have c0 := hL1.out.box.cell 0
  have c1 := hL1.out.box.cell 1
  have c2 := hL1.out.box.cell 2
  simp [valCs] at c0 c1 c2
  have hmy := refMay_any v w1
  rw [hmay] at hmy
  clear hmay
  go_wp2_with (go_at_call 17; refine hmy.mono ?_; rintro e w2 ⟨rfl, hs2⟩)
  go_ret
  exact (hL1.out.keepAll hs2).post
set_option maxRecDepth 100000 in
set_option maxHeartbeats 2000000 in
theorem refkey_0 (u : Value) (bs : List UInt8) (S : Nat → Prop) (w : World) (hu : By w S u bs) (hl : bs.length ≤ 100000) :
    Calls Tryd.prog 13 #[u, valV (⟨0, 0, []⟩ : Val)] w (OwnPost (bs ++ 0 :: []) w) := by
  obtain ⟨Z, hZ⟩ : ∃ Z, Z = bs ++ 0 :: [] := ⟨_, rfl⟩
  rw [← hZ]
  have HZ := Lib.hid hZ
  clear hZ
  have hmy := fun W => refMay_any (⟨0, 0, []⟩ : Val) W
  rw [show mayV (⟨0, 0, []⟩ : Val) = true from rfl] at hmy
  have HU := Lib.hid hu
  obtain ⟨A, cap, rfl, hcap, hm, -⟩ := id hu
  unfold maxLen at hm
  clear hu
  go_enter Tryd.func13, Tryd.ntmps13
  go_wp2_with (at_builtin; refine stopAt ?_)
  unfold Hid
  refine wpList_appL rfl (.tmp 7) (.tmp 8) rfl rfl rfl (layFresh w _) (HU.out.keep ((((Same.refl _ _).alloc _).alloc _).mono fun _ _ _ => trivial)) (by simp) (by simp; omega) ?_
  intro u1 w1 hu1 hs1
  have hL1 := Lib.hid (layBox (v := (⟨0, 0, []⟩ : Val)) (by simpa using hu1) hs1)
  obtain ⟨A1, cp1, rfl, -, -⟩ := hL1.out.own.form
  clear hu1 hs1
  have c0 := hL1.out.box.cell 0
  have c1 := hL1.out.box.cell 1
  have c2 := hL1.out.box.cell 2
  simp [valCs] at c0 c1 c2
  go_wp2_with (go_at_call 17; refine stopAt ?_)
  unfold Hid
  refine (hmy _).mono ?_
  rintro e w2 ⟨rfl, hs2⟩
  have hL2 := Lib.hid (hL1.out.keepAll hs2)
  clear c0 c1 c2
  have c0 := hL2.out.box.cell 0
  have c1 := hL2.out.box.cell 1
  have c2 := hL2.out.box.cell 2
  simp [valCs] at c0 c1 c2
  clear hmy
  go_wp2_with (at_builtin; refine stopAt ?_)
  unfold Hid
  have hb0 : Value.int .u8 0 = V8 0 := rfl
  rw [hb0]
  refine wpList_appB1 (bs := bs) (c := 0) rfl (.tmp 14) (.tmp 18) rfl rfl rfl hL2.out.own hL2.out.size (by omega) ?_
  intro u3 w3 hu3 hs3
  obtain ⟨ys, hys⟩ : ∃ ys, ys = bs ++ [0] := ⟨_, rfl⟩
  rw [← hys] at hu3
  have hL3 := Lib.hid (hL2.out.next hu3 hs3)
  have HYS := Lib.hid hys
  obtain ⟨L3, hL⟩ : ∃ L, ys.length = L := ⟨_, rfl⟩
  have hL3b : L3 ≤ 100001 := by rw [← hL, hys]; simp; omega
  have HLn := Lib.hid hL
  clear hL1 hL2 hu3 hs3 hs2 c0 c1 c2 hb0 hys hL
  obtain ⟨A3, cp3, rfl, -, hcp3⟩ := hL3.out.own.formN HLn.out
  unfold maxLen at hcp3
  have c0 := hL3.out.box.cell 0
  have c1 := hL3.out.box.cell 1
  have c2 := hL3.out.box.cell 2
  have hsz3 := hL3.out.size
  simp [valCs] at c0 c1 c2
  go_wp2
  go_ret
  rw [HZ.out, ← HYS.out]
  exact hL3.out.post
set_option maxRecDepth 100000 in
set_option maxHeartbeats 2000000 in
theorem refkey_1 (n : Int) (hn : n = 0 ∨ n = 1) (u : Value) (bs : List UInt8) (S : Nat → Prop) (w : World) (hu : By w S u bs) (hl : bs.length ≤ 100000) :
    Calls Tryd.prog 13 #[u, valV (⟨1, n, []⟩ : Val)] w (OwnPost (bs ++ 1 :: [UInt8.ofNat n.toNat]) w) := by
  obtain ⟨Z, hZ⟩ : ∃ Z, Z = bs ++ 1 :: [UInt8.ofNat n.toNat] := ⟨_, rfl⟩
  rw [← hZ]
  have HZ := Lib.hid hZ
  clear hZ
  have hmy := fun W => refMay_any (⟨1, n, []⟩ : Val) W
  rw [show mayV (⟨1, n, []⟩ : Val) = true from by rcases hn with rfl | rfl <;> rfl] at hmy
  have HU := Lib.hid hu
  obtain ⟨A, cap, rfl, hcap, hm, -⟩ := id hu
  unfold maxLen at hm
  clear hu
  go_enter Tryd.func13, Tryd.ntmps13
  go_wp2_with (at_builtin; refine stopAt ?_)
  unfold Hid
  refine wpList_appL rfl (.tmp 7) (.tmp 8) rfl rfl rfl (layFresh w _) (HU.out.keep ((((Same.refl _ _).alloc _).alloc _).mono fun _ _ _ => trivial)) (by simp) (by simp; omega) ?_
  intro u1 w1 hu1 hs1
  have hL1 := Lib.hid (layBox (v := (⟨1, n, []⟩ : Val)) (by simpa using hu1) hs1)
  obtain ⟨A1, cp1, rfl, -, -⟩ := hL1.out.own.form
  clear hu1 hs1
  have c0 := hL1.out.box.cell 0
  have c1 := hL1.out.box.cell 1
  have c2 := hL1.out.box.cell 2
  simp [valCs] at c0 c1 c2
  go_wp2_with (go_at_call 17; refine stopAt ?_)
  unfold Hid
  refine (hmy _).mono ?_
  rintro e w2 ⟨rfl, hs2⟩
  have hL2 := Lib.hid (hL1.out.keepAll hs2)
  clear c0 c1 c2
  have c0 := hL2.out.box.cell 0
  have c1 := hL2.out.box.cell 1
  have c2 := hL2.out.box.cell 2
  simp [valCs] at c0 c1 c2
  clear hmy
  go_wp2_with (at_builtin; refine stopAt ?_)
  unfold Hid
  have hb0 : Value.int .u8 1 = V8 1 := rfl
  rw [hb0]
  refine wpList_appB1 (bs := bs) (c := 1) rfl (.tmp 14) (.tmp 18) rfl rfl rfl hL2.out.own hL2.out.size (by omega) ?_
  intro u3 w3 hu3 hs3
  obtain ⟨ys, hys⟩ : ∃ ys, ys = bs ++ [1] := ⟨_, rfl⟩
  rw [← hys] at hu3
  have hL3 := Lib.hid (hL2.out.next hu3 hs3)
  have HYS := Lib.hid hys
  obtain ⟨L3, hL⟩ : ∃ L, ys.length = L := ⟨_, rfl⟩
  have hL3b : L3 ≤ 100001 := by rw [← hL, hys]; simp; omega
  have HLn := Lib.hid hL
  clear hL1 hL2 hu3 hs3 hs2 c0 c1 c2 hb0 hys hL
  obtain ⟨A3, cp3, rfl, -, hcp3⟩ := hL3.out.own.formN HLn.out
  unfold maxLen at hcp3
  have c0 := hL3.out.box.cell 0
  have c1 := hL3.out.box.cell 1
  have c2 := hL3.out.box.cell 2
  have hsz3 := hL3.out.size
  simp [valCs] at c0 c1 c2
  have hb : Value.int .u8 n = V8 (UInt8.ofNat n.toNat) := by rcases hn with rfl | rfl <;> rfl
  obtain ⟨c, hc⟩ : ∃ c, c = UInt8.ofNat n.toNat := ⟨_, rfl⟩
  rw [← hc] at hb
  have HB := Lib.hid hb
  have HC := Lib.hid hc
  have hn0 : 0 ≤ n ∧ n ≤ 1 := by omega
  clear hb hc hn
  go_wp2_with (at_builtin; refine stopAt ?_)
  unfold Hid
  rw [HB.out]
  refine wpList_appB1 (bs := ys) (c := c) rfl (.tmp 24) (.tmp 28) rfl rfl rfl hL3.out.own hsz3 (by rw [HLn.out]; omega) ?_
  intro u4 w4 hu4 hs4
  have hL4 := Lib.hid (hL3.out.next hu4 hs4)
  clear hL3 hu4 hs4
  go_wp2
  go_ret
  rw [HZ.out, ← HC.out, show bs ++ 1 :: [c] = ys ++ [c] by rw [HYS.out]; simp]
  exact hL4.out.post
set_option maxRecDepth 100000 in
set_option maxHeartbeats 2000000 in
theorem refkey_2 (n : Int) (hn : I64 n) (u : Value) (bs : List UInt8) (S : Nat → Prop) (w : World) (hu : By w S u bs) (hl : bs.length ≤ 100000) :
    Calls Tryd.prog 13 #[u, valV (⟨2, n, []⟩ : Val)] w (OwnPost (bs ++ 2 :: putN 8 (ordN n)) w) := by
  obtain ⟨Z, hZ⟩ : ∃ Z, Z = bs ++ 2 :: putN 8 (ordN n) := ⟨_, rfl⟩
  rw [← hZ]
  have HZ := Lib.hid hZ
  clear hZ
  have hmy := fun W => refMay_any (⟨2, n, []⟩ : Val) W
  rw [show mayV (⟨2, n, []⟩ : Val) = true from rfl] at hmy
  have HU := Lib.hid hu
  obtain ⟨A, cap, rfl, hcap, hm, -⟩ := id hu
  unfold maxLen at hm
  clear hu
  go_enter Tryd.func13, Tryd.ntmps13
  go_wp2_with (at_builtin; refine stopAt ?_)
  unfold Hid
  refine wpList_appL rfl (.tmp 7) (.tmp 8) rfl rfl rfl (layFresh w _) (HU.out.keep ((((Same.refl _ _).alloc _).alloc _).mono fun _ _ _ => trivial)) (by simp) (by simp; omega) ?_
  intro u1 w1 hu1 hs1
  have hL1 := Lib.hid (layBox (v := (⟨2, n, []⟩ : Val)) (by simpa using hu1) hs1)
  obtain ⟨A1, cp1, rfl, -, -⟩ := hL1.out.own.form
  clear hu1 hs1
  have c0 := hL1.out.box.cell 0
  have c1 := hL1.out.box.cell 1
  have c2 := hL1.out.box.cell 2
  simp [valCs] at c0 c1 c2
  go_wp2_with (go_at_call 17; refine stopAt ?_)
  unfold Hid
  refine (hmy _).mono ?_
  rintro e w2 ⟨rfl, hs2⟩
  have hL2 := Lib.hid (hL1.out.keepAll hs2)
  clear c0 c1 c2
  have c0 := hL2.out.box.cell 0
  have c1 := hL2.out.box.cell 1
  have c2 := hL2.out.box.cell 2
  simp [valCs] at c0 c1 c2
  clear hmy
  go_wp2_with (at_builtin; refine stopAt ?_)
  unfold Hid
  have hb0 : Value.int .u8 2 = V8 2 := rfl
  rw [hb0]
  refine wpList_appB1 (bs := bs) (c := 2) rfl (.tmp 14) (.tmp 18) rfl rfl rfl hL2.out.own hL2.out.size (by omega) ?_
  intro u3 w3 hu3 hs3
  obtain ⟨ys, hys⟩ : ∃ ys, ys = bs ++ [2] := ⟨_, rfl⟩
  rw [← hys] at hu3
  have hL3 := Lib.hid (hL2.out.next hu3 hs3)
  have HYS := Lib.hid hys
  obtain ⟨L3, hL⟩ : ∃ L, ys.length = L := ⟨_, rfl⟩
  have hL3b : L3 ≤ 100001 := by rw [← hL, hys]; simp; omega
  have HLn := Lib.hid hL
  clear hL1 hL2 hu3 hs3 hs2 c0 c1 c2 hb0 hys hL
  obtain ⟨A3, cp3, rfl, -, hcp3⟩ := hL3.out.own.formN HLn.out
  unfold maxLen at hcp3
  have c0 := hL3.out.box.cell 0
  have c1 := hL3.out.box.cell 1
  have c2 := hL3.out.box.cell 2
  have hsz3 := hL3.out.size
  simp [valCs] at c0 c1 c2
  go_wp2_with (first | (go_at_call 33; refine (reforder_any n hn _).mono ?_; rintro e w' ⟨rfl, rfl⟩) | (go_at_call 32; refine (refeight_any (ordN n) _ (ord_lt hn)).mono ?_; rintro e w4 ⟨u4, rfl, hu4, hs4⟩) | (at_builtin; refine stopAt ?_))
  unfold Hid
  have hL4 := Lib.hid (hL3.out.keepAll hs4)
  refine wpList_appL rfl (.tmp 32) (.tmp 36) rfl rfl rfl hL4.out.own hu4.by_ hL4.out.size (by rw [HLn.out, putN_len]; omega) ?_
  intro u5 w5 hu5 hs5
  have hL5 := Lib.hid (hL4.out.next hu5 hs5)
  clear hL3 hL4 hu5 hs5 hu4 hs4
  go_wp2
  go_ret
  rw [HZ.out, show bs ++ 2 :: putN 8 (ordN n) = ys ++ putN 8 (ordN n) by rw [HYS.out]; simp]
  exact hL5.out.post
set_option maxRecDepth 100000 in
set_option maxHeartbeats 2000000 in
theorem refkey_3 (s : List UInt8) (hs : s.length ≤ 64) (u : Value) (bs : List UInt8) (S : Nat → Prop) (w : World) (hu : By w S u bs) (hl : bs.length ≤ 100000) :
    Calls Tryd.prog 13 #[u, valV (⟨3, 0, s⟩ : Val)] w (OwnPost (bs ++ 3 :: (escL s ++ [0, 1])) w) := by
  obtain ⟨Z, hZ⟩ : ∃ Z, Z = bs ++ 3 :: (escL s ++ [0, 1]) := ⟨_, rfl⟩
  rw [← hZ]
  have HZ := Lib.hid hZ
  clear hZ
  have hmy := fun W => refMay_any (⟨3, 0, s⟩ : Val) W
  rw [show mayV (⟨3, 0, s⟩ : Val) = true from by simp [mayV, hs]] at hmy
  have HU := Lib.hid hu
  obtain ⟨A, cap, rfl, hcap, hm, -⟩ := id hu
  unfold maxLen at hm
  clear hu
  go_enter Tryd.func13, Tryd.ntmps13
  go_wp2_with (at_builtin; refine stopAt ?_)
  unfold Hid
  refine wpList_appL rfl (.tmp 7) (.tmp 8) rfl rfl rfl (layFresh w _) (HU.out.keep ((((Same.refl _ _).alloc _).alloc _).mono fun _ _ _ => trivial)) (by simp) (by simp; omega) ?_
  intro u1 w1 hu1 hs1
  have hL1 := Lib.hid (layBox (v := (⟨3, 0, s⟩ : Val)) (by simpa using hu1) hs1)
  obtain ⟨A1, cp1, rfl, -, -⟩ := hL1.out.own.form
  clear hu1 hs1
  have c0 := hL1.out.box.cell 0
  have c1 := hL1.out.box.cell 1
  have c2 := hL1.out.box.cell 2
  simp [valCs] at c0 c1 c2
  go_wp2_with (go_at_call 17; refine stopAt ?_)
  unfold Hid
  refine (hmy _).mono ?_
  rintro e w2 ⟨rfl, hs2⟩
  have hL2 := Lib.hid (hL1.out.keepAll hs2)
  clear c0 c1 c2
  have c0 := hL2.out.box.cell 0
  have c1 := hL2.out.box.cell 1
  have c2 := hL2.out.box.cell 2
  simp [valCs] at c0 c1 c2
  clear hmy
  go_wp2_with (at_builtin; refine stopAt ?_)
  unfold Hid
  have hb0 : Value.int .u8 3 = V8 3 := rfl
  rw [hb0]
  refine wpList_appB1 (bs := bs) (c := 3) rfl (.tmp 14) (.tmp 18) rfl rfl rfl hL2.out.own hL2.out.size (by omega) ?_
  intro u3 w3 hu3 hs3
  obtain ⟨ys, hys⟩ : ∃ ys, ys = bs ++ [3] := ⟨_, rfl⟩
  rw [← hys] at hu3
  have hL3 := Lib.hid (hL2.out.next hu3 hs3)
  have HYS := Lib.hid hys
  obtain ⟨L3, hL⟩ : ∃ L, ys.length = L := ⟨_, rfl⟩
  have hL3b : L3 ≤ 100001 := by rw [← hL, hys]; simp; omega
  have HLn := Lib.hid hL
  clear hL1 hL2 hu3 hs3 hs2 c0 c1 c2 hb0 hys hL
  obtain ⟨A3, cp3, rfl, -, hcp3⟩ := hL3.out.own.formN HLn.out
  unfold maxLen at hcp3
  have c0 := hL3.out.box.cell 0
  have c1 := hL3.out.box.cell 1
  have c2 := hL3.out.box.cell 2
  have hsz3 := hL3.out.size
  simp [valCs] at c0 c1 c2
  have hsz : (str s).size = s.length := str_size s
  go_wp2
  go_loopw [5, 6] (fun o vi wr => ∃ k : Nat, k ≤ s.length ∧ vi = .int .i64 k ∧ Hid (LayIn w wr ⟨3, 0, s⟩ o (ys ++ escL (s.take k)))) (fun _ vi _ => s.length - (intOf vi).toNat)
  case atStart => exact ⟨0, by omega, rfl, Lib.hid (by simpa [escL] using hL3.out)⟩
  case round =>
    obtain ⟨k, hk, rfl, hI⟩ := hrel
    clear hL3 c0 c1 c2
    obtain ⟨xs, hxs⟩ : ∃ xs, xs = ys ++ escL (s.take k) := ⟨_, rfl⟩
    rw [← hxs] at hI
    obtain ⟨L5, hL5⟩ : ∃ L, xs.length = L := ⟨_, rfl⟩
    have hL5b : L5 ≤ 100200 := by rw [← hL5, hxs, List.length_append, HLn.out]; have := escL_len (s.take k); have : (s.take k).length ≤ k := by simp; omega
                                  omega
    have HXS := Lib.hid hxs
    have HL5 := Lib.hid hL5
    clear hxs hL5
    obtain ⟨A5, cp5, rfl, -, hcp5⟩ := hI.out.own.formN HL5.out
    unfold maxLen at hcp5
    have c2 := hI.out.box.cell 2
    have hszr := hI.out.size
    simp [valCs] at c2
    by_cases hlt : k < s.length
    · have hltI : (k : Int) < (s.length : Int) := by omega
      have hkq : k < (str s).size := by rw [str_size]; exact hlt
      have hb : Value.int .u8 (((str s)[k].toNat : Nat) : Int) = V8 s[k] := rfl
      have hcz : (((str s)[k].toNat : Nat) : Int) = n8 s[k] := rfl
      obtain ⟨c, hc⟩ : ∃ c, c = s[k] := ⟨_, rfl⟩
      rw [← hc] at hb hcz
      have hes := escL_take hlt hc
      have HB := Lib.hid hb
      have HCZ := Lib.hid hcz
      have HES := Lib.hid hes
      clear hb hc hcz hes
      go_wp2_with (at_builtin; refine stopAt ?_)
      unfold Hid
      rw [HB.out]
      refine wpList_appB1 (bs := xs) (c := c) rfl (.tmp 47) (.tmp 52) rfl rfl rfl hI.out.own hszr (by rw [HL5.out]; omega) ?_
      intro u6 w6 hu6 hs6
      have hI6 := Lib.hid (hI.out.next hu6 hs6)
      clear hI hu6 hs6 c2
      obtain ⟨A6, cp6, rfl, -, hcp6⟩ := hI6.out.own.formN (n := L5 + 1) (by rw [List.length_append, HL5.out]; rfl)
      unfold maxLen at hcp6
      have c2 := hI6.out.box.cell 2
      have hszr6 := hI6.out.size
      simp [valCs] at c2
      by_cases hz : c = 0
      · have g1 : (((str s)[k].toNat : Nat) : Int) = 0 := by rw [HCZ.out, hz]; rfl
        have hb255 : Value.int .u8 255 = V8 255 := rfl
        have he : Hid (xs ++ [c] ++ [255] = ys ++ escL (s.take (k + 1))) := Lib.hid (by rw [HXS.out, HES.out, if_pos hz, hz]; simp)
        clear hz
        go_wp2_with (at_builtin; refine stopAt ?_)
        unfold Hid
        rw [hb255]
        refine wpList_appB1 (bs := xs ++ [c]) (c := 255) rfl (.tmp 59) (.tmp 60) rfl rfl rfl hI6.out.own hszr6 (by rw [List.length_append, HL5.out]; simp; omega) ?_
        intro u7 w7 hu7 hs7
        have hI7 := Lib.hid (hI6.out.next hu7 hs7)
        rw [he.out] at hI7
        clear hI6 hu7 hs7 c2 hb255
        go_wp2
        go_roundw
        case rel => exact ⟨k + 1, by omega, by go_num, hI7⟩
        case measure => simp [intOf]; omega
      · have g1 : ¬ (((str s)[k].toNat : Nat) : Int) = 0 := by rw [HCZ.out]; intro e; exact hz (UInt8.toNat_inj.1 (by unfold n8 at e; exact_mod_cast e))
        have he : Hid (xs ++ [c] = ys ++ escL (s.take (k + 1))) := Lib.hid (by rw [HXS.out, HES.out, if_neg hz]; simp)
        rw [he.out] at hI6
        clear hz
        go_wp2
        go_roundw
        case rel => exact ⟨k + 1, by omega, by go_num, hI6⟩
        case measure => simp [intOf]; omega
    · obtain rfl : k = s.length := by omega
      have hz : Z = xs ++ [0, 1] := by rw [HZ.out, HXS.out, HYS.out, List.take_length]; simp
      have HZ2 := Lib.hid hz
      clear hz hlt
      go_wp2_with (at_builtin; refine stopAt ?_)
      unfold Hid
      refine wpList_appL rfl (.tmp 62) (.tmp 63) rfl rfl rfl (hI.out.own.keepAll ((Same.refl _ _).alloc _)) (By.lit (S := fun _ => True) (bs := [0, 1]) (fr := (0, 0)) (e := 5) (heap_now rfl) trivial rfl (by omega) (by simp [maxLen])) (by simp; omega) (by rw [HL5.out]; simp; omega) ?_
      intro u8 w8 hu8 hs8
      have hI8 := Lib.hid ((hI.out.keepAll ((Same.refl _ _).alloc _)).next hu8 hs8)
      clear hI hu8 hs8 c2
      go_wp2
      go_ret
      rw [HZ2.out]
      exact hI8.out.post
theorem refkey_any (v : Val) (u : Value) (bs : List UInt8) (S : Nat → Prop) (w : World) (hu : By w S u bs) (hl : bs.length ≤ 100000) (hn : I64 v.n) :
    Calls Tryd.prog 13 #[u, valV v] w (OwnPost (bs ++ keyL v) w) := by
  unfold keyL
  by_cases hm : v.May
  · rw [if_pos hm]
    obtain ⟨k, n, s⟩ := v
    rcases hm with ⟨hk, h1, h2⟩ | ⟨hk, h1, h2⟩ | ⟨hk, h2⟩ | ⟨hk, h1, h2⟩
    · simp only at hk h1 h2; subst hk h1 h2; exact refkey_0 u bs S w hu hl
    · simp only at hk h1 h2; subst hk h2; exact refkey_1 n h1 u bs S w hu hl
    · simp only at hk h2; subst hk h2; exact refkey_2 n hn u bs S w hu hl
    · simp only at hk h1 h2; subst hk h1; exact refkey_3 s h2 u bs S w hu hl
  · rw [if_neg hm, List.append_nil]
    exact refkey_no v u bs S w hu hl (by cases h : mayV v with | false => rfl | true => exact absurd ((mayV_iff v).1 h) hm)
end Go.Proofs.YtpbekhcogpkbpaaDoor
