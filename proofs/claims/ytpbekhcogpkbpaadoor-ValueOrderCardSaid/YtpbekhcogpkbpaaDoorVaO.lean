/-
  The walk of ValueOrder.
-/
import Derived.Test.YtpbekhcogpkbpaaDoorVaR
set_option linter.unusedSimpArgs false
set_option linter.unusedVariables false
namespace Go.Proofs.YtpbekhcogpkbpaaDoor
open Go.RowKit

theorem cmp_facts (a b c : Val) : (-1 ≤ cmpV a b ∧ cmpV a b ≤ 1) ∧ cmpV b a = -cmpV a b ∧ (cmpV a b ≤ 0 → cmpV b c ≤ 0 → ¬ 0 < cmpV a c) := ⟨cmpV_bd a b, cmpV_swap a b, fun h1 h2 h => by have := cmpV_trans h1 h2; omega⟩
set_option maxRecDepth 100000 in
set_option maxHeartbeats 2000000 in
theorem order_no0 (a b c : Val) (w : World) (hE : EnvT w) (ha : mayV a = false) : Calls Tryd.prog 5 #[valV a, valV b, valV c] w (BoolP true w) := by
  have HE := Lib.hid hE
  clear hE
  have ra0 := ((Row.new w 24 (valCs a)).keep ((Same.refl (fun _ => True) _).alloc (.cells #[.int .i64 b.kind, .int .i64 b.n, .string (str b.s)] 24)) trivial).keep ((Same.refl (fun _ => True) _).alloc (.cells #[.int .i64 c.kind, .int .i64 c.n, .string (str c.s)] 24)) trivial
  have rb0 := ((Row.new (w.alloc (.cells #[.int .i64 a.kind, .int .i64 a.n, .string (str a.s)] 24)) 24 (valCs b))).keep ((Same.refl (fun _ => True) _).alloc (.cells #[.int .i64 c.kind, .int .i64 c.n, .string (str c.s)] 24)) trivial
  have rc0 := Row.new ((w.alloc (.cells #[.int .i64 a.kind, .int .i64 a.n, .string (str a.s)] 24)).alloc (.cells #[.int .i64 b.kind, .int .i64 b.n, .string (str b.s)] 24)) 24 (valCs c)
  rw [size_alloc1] at rb0
  rw [size_alloc1, size_alloc1, Nat.add_assoc] at rc0
  have HRa : Hid (Row (((w.alloc (.cells #[.int .i64 a.kind, .int .i64 a.n, .string (str a.s)] 24)).alloc (.cells #[.int .i64 b.kind, .int .i64 b.n, .string (str b.s)] 24)).alloc (.cells #[.int .i64 c.kind, .int .i64 c.n, .string (str c.s)] 24)) w.heap.size 24 (valCs a)) := Lib.hid ra0
  have HRb : Hid (Row (((w.alloc (.cells #[.int .i64 a.kind, .int .i64 a.n, .string (str a.s)] 24)).alloc (.cells #[.int .i64 b.kind, .int .i64 b.n, .string (str b.s)] 24)).alloc (.cells #[.int .i64 c.kind, .int .i64 c.n, .string (str c.s)] 24)) (w.heap.size + 1) 24 (valCs b)) := Lib.hid rb0
  have HRc : Hid (Row (((w.alloc (.cells #[.int .i64 a.kind, .int .i64 a.n, .string (str a.s)] 24)).alloc (.cells #[.int .i64 b.kind, .int .i64 b.n, .string (str b.s)] 24)).alloc (.cells #[.int .i64 c.kind, .int .i64 c.n, .string (str c.s)] 24)) (w.heap.size + 2) 24 (valCs c)) := Lib.hid rc0
  clear ra0 rb0 rc0
  unfold BoolP
  go_enter Tryd.func5, Tryd.ntmps5
  have hma := fun W => exMay_any a W
  rw [ha] at hma
  unfold BoolP at hma
  go_wp2_with (go_at_call 8; refine stopAt ?_)
  unfold Hid
  refine (begun_any _ (HE.out.keepAll (((Same.refl (fun _ => True) w).alloc _).alloc _ |>.alloc _))).mono ?_
  rintro e w1 ⟨rfl, hs1⟩
  have hra1 : Row w1 w.heap.size 24 (valCs a) := HRa.out.keep hs1 trivial
  have hrb1 : Row w1 (w.heap.size + 1) 24 (valCs b) := HRb.out.keep hs1 trivial
  have hrc1 : Row w1 (w.heap.size + 2) 24 (valCs c) := HRc.out.keep hs1 trivial
  have HS1 := Lib.hid ((((Same.refl (fun _ => True) w).alloc (.cells #[.int .i64 a.kind, .int .i64 a.n, .string (str a.s)] 24)).alloc (.cells #[.int .i64 b.kind, .int .i64 b.n, .string (str b.s)] 24) |>.alloc (.cells #[.int .i64 c.kind, .int .i64 c.n, .string (str c.s)] 24)).trans hs1)
  clear HRa HRb HRc
  obtain ⟨a10, a11, a12, -, -, -⟩ := val_cells hra1
  have la1 := hra1.lt
  have HRa := Lib.hid hra1
  obtain ⟨b10, b11, b12, -, -, -⟩ := val_cells hrb1
  have lb1 := hrb1.lt
  have HRb := Lib.hid hrb1
  obtain ⟨c10, c11, c12, -, -, -⟩ := val_cells hrc1
  have lc1 := hrc1.lt
  have HRc := Lib.hid hrc1
  clear hra1 hrb1 hrc1 hs1
  go_wp2_with (go_at_call 16; refine stopAt ?_)
  unfold Hid
  refine (hma _).mono ?_
  rintro e w2 ⟨rfl, hs2⟩
  have hra2 : Row w2 w.heap.size 24 (valCs a) := HRa.out.keep hs2 trivial
  have hrb2 : Row w2 (w.heap.size + 1) 24 (valCs b) := HRb.out.keep hs2 trivial
  have hrc2 : Row w2 (w.heap.size + 2) 24 (valCs c) := HRc.out.keep hs2 trivial
  have HS2 := Lib.hid (HS1.out.trans hs2)
  clear HRa HRb HRc
  obtain ⟨a20, a21, a22, -, -, -⟩ := val_cells hra2
  have la2 := hra2.lt
  have HRa := Lib.hid hra2
  obtain ⟨b20, b21, b22, -, -, -⟩ := val_cells hrb2
  have lb2 := hrb2.lt
  have HRb := Lib.hid hrb2
  obtain ⟨c20, c21, c22, -, -, -⟩ := val_cells hrc2
  have lc2 := hrc2.lt
  have HRc := Lib.hid hrc2
  clear hra2 hrb2 hrc2 hs2
  clear a10 a11 a12 b10 b11 b12 c10 c11 c12
  go_wp2
  go_ret
  exact ⟨rfl, HS2.out⟩
set_option maxRecDepth 100000 in
set_option maxHeartbeats 2000000 in
theorem order_no10 (a b c : Val) (w : World) (hE : EnvT w) (ha : mayV a = true) (hb : mayV b = false) : Calls Tryd.prog 5 #[valV a, valV b, valV c] w (BoolP true w) := by
  have HE := Lib.hid hE
  clear hE
  have ra0 := ((Row.new w 24 (valCs a)).keep ((Same.refl (fun _ => True) _).alloc (.cells #[.int .i64 b.kind, .int .i64 b.n, .string (str b.s)] 24)) trivial).keep ((Same.refl (fun _ => True) _).alloc (.cells #[.int .i64 c.kind, .int .i64 c.n, .string (str c.s)] 24)) trivial
  have rb0 := ((Row.new (w.alloc (.cells #[.int .i64 a.kind, .int .i64 a.n, .string (str a.s)] 24)) 24 (valCs b))).keep ((Same.refl (fun _ => True) _).alloc (.cells #[.int .i64 c.kind, .int .i64 c.n, .string (str c.s)] 24)) trivial
  have rc0 := Row.new ((w.alloc (.cells #[.int .i64 a.kind, .int .i64 a.n, .string (str a.s)] 24)).alloc (.cells #[.int .i64 b.kind, .int .i64 b.n, .string (str b.s)] 24)) 24 (valCs c)
  rw [size_alloc1] at rb0
  rw [size_alloc1, size_alloc1, Nat.add_assoc] at rc0
  have HRa : Hid (Row (((w.alloc (.cells #[.int .i64 a.kind, .int .i64 a.n, .string (str a.s)] 24)).alloc (.cells #[.int .i64 b.kind, .int .i64 b.n, .string (str b.s)] 24)).alloc (.cells #[.int .i64 c.kind, .int .i64 c.n, .string (str c.s)] 24)) w.heap.size 24 (valCs a)) := Lib.hid ra0
  have HRb : Hid (Row (((w.alloc (.cells #[.int .i64 a.kind, .int .i64 a.n, .string (str a.s)] 24)).alloc (.cells #[.int .i64 b.kind, .int .i64 b.n, .string (str b.s)] 24)).alloc (.cells #[.int .i64 c.kind, .int .i64 c.n, .string (str c.s)] 24)) (w.heap.size + 1) 24 (valCs b)) := Lib.hid rb0
  have HRc : Hid (Row (((w.alloc (.cells #[.int .i64 a.kind, .int .i64 a.n, .string (str a.s)] 24)).alloc (.cells #[.int .i64 b.kind, .int .i64 b.n, .string (str b.s)] 24)).alloc (.cells #[.int .i64 c.kind, .int .i64 c.n, .string (str c.s)] 24)) (w.heap.size + 2) 24 (valCs c)) := Lib.hid rc0
  clear ra0 rb0 rc0
  unfold BoolP
  go_enter Tryd.func5, Tryd.ntmps5
  have hma := fun W => exMay_any a W
  rw [ha] at hma
  unfold BoolP at hma
  have hmb := fun W => exMay_any b W
  rw [hb] at hmb
  unfold BoolP at hmb
  go_wp2_with (go_at_call 8; refine stopAt ?_)
  unfold Hid
  refine (begun_any _ (HE.out.keepAll (((Same.refl (fun _ => True) w).alloc _).alloc _ |>.alloc _))).mono ?_
  rintro e w1 ⟨rfl, hs1⟩
  have hra1 : Row w1 w.heap.size 24 (valCs a) := HRa.out.keep hs1 trivial
  have hrb1 : Row w1 (w.heap.size + 1) 24 (valCs b) := HRb.out.keep hs1 trivial
  have hrc1 : Row w1 (w.heap.size + 2) 24 (valCs c) := HRc.out.keep hs1 trivial
  have HS1 := Lib.hid ((((Same.refl (fun _ => True) w).alloc (.cells #[.int .i64 a.kind, .int .i64 a.n, .string (str a.s)] 24)).alloc (.cells #[.int .i64 b.kind, .int .i64 b.n, .string (str b.s)] 24) |>.alloc (.cells #[.int .i64 c.kind, .int .i64 c.n, .string (str c.s)] 24)).trans hs1)
  clear HRa HRb HRc
  obtain ⟨a10, a11, a12, -, -, -⟩ := val_cells hra1
  have la1 := hra1.lt
  have HRa := Lib.hid hra1
  obtain ⟨b10, b11, b12, -, -, -⟩ := val_cells hrb1
  have lb1 := hrb1.lt
  have HRb := Lib.hid hrb1
  obtain ⟨c10, c11, c12, -, -, -⟩ := val_cells hrc1
  have lc1 := hrc1.lt
  have HRc := Lib.hid hrc1
  clear hra1 hrb1 hrc1 hs1
  go_wp2_with (go_at_call 16; refine stopAt ?_)
  unfold Hid
  refine (hma _).mono ?_
  rintro e w2 ⟨rfl, hs2⟩
  have hra2 : Row w2 w.heap.size 24 (valCs a) := HRa.out.keep hs2 trivial
  have hrb2 : Row w2 (w.heap.size + 1) 24 (valCs b) := HRb.out.keep hs2 trivial
  have hrc2 : Row w2 (w.heap.size + 2) 24 (valCs c) := HRc.out.keep hs2 trivial
  have HS2 := Lib.hid (HS1.out.trans hs2)
  clear HRa HRb HRc
  obtain ⟨a20, a21, a22, -, -, -⟩ := val_cells hra2
  have la2 := hra2.lt
  have HRa := Lib.hid hra2
  obtain ⟨b20, b21, b22, -, -, -⟩ := val_cells hrb2
  have lb2 := hrb2.lt
  have HRb := Lib.hid hrb2
  obtain ⟨c20, c21, c22, -, -, -⟩ := val_cells hrc2
  have lc2 := hrc2.lt
  have HRc := Lib.hid hrc2
  clear hra2 hrb2 hrc2 hs2
  clear a10 a11 a12 b10 b11 b12 c10 c11 c12
  go_wp2_with (go_at_call 16; refine stopAt ?_)
  unfold Hid
  refine (hmb _).mono ?_
  rintro e w3 ⟨rfl, hs3⟩
  have hra3 : Row w3 w.heap.size 24 (valCs a) := HRa.out.keep hs3 trivial
  have hrb3 : Row w3 (w.heap.size + 1) 24 (valCs b) := HRb.out.keep hs3 trivial
  have hrc3 : Row w3 (w.heap.size + 2) 24 (valCs c) := HRc.out.keep hs3 trivial
  have HS3 := Lib.hid (HS2.out.trans hs3)
  clear HRa HRb HRc
  obtain ⟨a30, a31, a32, -, -, -⟩ := val_cells hra3
  have la3 := hra3.lt
  have HRa := Lib.hid hra3
  obtain ⟨b30, b31, b32, -, -, -⟩ := val_cells hrb3
  have lb3 := hrb3.lt
  have HRb := Lib.hid hrb3
  obtain ⟨c30, c31, c32, -, -, -⟩ := val_cells hrc3
  have lc3 := hrc3.lt
  have HRc := Lib.hid hrc3
  clear hra3 hrb3 hrc3 hs3
  clear a20 a21 a22 b20 b21 b22 c20 c21 c22
  go_wp2
  go_ret
  exact ⟨rfl, HS3.out⟩
set_option maxRecDepth 100000 in
set_option maxHeartbeats 2000000 in
theorem order_no110 (a b c : Val) (w : World) (hE : EnvT w) (ha : mayV a = true) (hb : mayV b = true) (hc : mayV c = false) : Calls Tryd.prog 5 #[valV a, valV b, valV c] w (BoolP true w) := by
  have HE := Lib.hid hE
  clear hE
  have ra0 := ((Row.new w 24 (valCs a)).keep ((Same.refl (fun _ => True) _).alloc (.cells #[.int .i64 b.kind, .int .i64 b.n, .string (str b.s)] 24)) trivial).keep ((Same.refl (fun _ => True) _).alloc (.cells #[.int .i64 c.kind, .int .i64 c.n, .string (str c.s)] 24)) trivial
  have rb0 := ((Row.new (w.alloc (.cells #[.int .i64 a.kind, .int .i64 a.n, .string (str a.s)] 24)) 24 (valCs b))).keep ((Same.refl (fun _ => True) _).alloc (.cells #[.int .i64 c.kind, .int .i64 c.n, .string (str c.s)] 24)) trivial
  have rc0 := Row.new ((w.alloc (.cells #[.int .i64 a.kind, .int .i64 a.n, .string (str a.s)] 24)).alloc (.cells #[.int .i64 b.kind, .int .i64 b.n, .string (str b.s)] 24)) 24 (valCs c)
  rw [size_alloc1] at rb0
  rw [size_alloc1, size_alloc1, Nat.add_assoc] at rc0
  have HRa : Hid (Row (((w.alloc (.cells #[.int .i64 a.kind, .int .i64 a.n, .string (str a.s)] 24)).alloc (.cells #[.int .i64 b.kind, .int .i64 b.n, .string (str b.s)] 24)).alloc (.cells #[.int .i64 c.kind, .int .i64 c.n, .string (str c.s)] 24)) w.heap.size 24 (valCs a)) := Lib.hid ra0
  have HRb : Hid (Row (((w.alloc (.cells #[.int .i64 a.kind, .int .i64 a.n, .string (str a.s)] 24)).alloc (.cells #[.int .i64 b.kind, .int .i64 b.n, .string (str b.s)] 24)).alloc (.cells #[.int .i64 c.kind, .int .i64 c.n, .string (str c.s)] 24)) (w.heap.size + 1) 24 (valCs b)) := Lib.hid rb0
  have HRc : Hid (Row (((w.alloc (.cells #[.int .i64 a.kind, .int .i64 a.n, .string (str a.s)] 24)).alloc (.cells #[.int .i64 b.kind, .int .i64 b.n, .string (str b.s)] 24)).alloc (.cells #[.int .i64 c.kind, .int .i64 c.n, .string (str c.s)] 24)) (w.heap.size + 2) 24 (valCs c)) := Lib.hid rc0
  clear ra0 rb0 rc0
  unfold BoolP
  go_enter Tryd.func5, Tryd.ntmps5
  have hma := fun W => exMay_any a W
  rw [ha] at hma
  unfold BoolP at hma
  have hmb := fun W => exMay_any b W
  rw [hb] at hmb
  unfold BoolP at hmb
  have hmc := fun W => exMay_any c W
  rw [hc] at hmc
  unfold BoolP at hmc
  go_wp2_with (go_at_call 8; refine stopAt ?_)
  unfold Hid
  refine (begun_any _ (HE.out.keepAll (((Same.refl (fun _ => True) w).alloc _).alloc _ |>.alloc _))).mono ?_
  rintro e w1 ⟨rfl, hs1⟩
  have hra1 : Row w1 w.heap.size 24 (valCs a) := HRa.out.keep hs1 trivial
  have hrb1 : Row w1 (w.heap.size + 1) 24 (valCs b) := HRb.out.keep hs1 trivial
  have hrc1 : Row w1 (w.heap.size + 2) 24 (valCs c) := HRc.out.keep hs1 trivial
  have HS1 := Lib.hid ((((Same.refl (fun _ => True) w).alloc (.cells #[.int .i64 a.kind, .int .i64 a.n, .string (str a.s)] 24)).alloc (.cells #[.int .i64 b.kind, .int .i64 b.n, .string (str b.s)] 24) |>.alloc (.cells #[.int .i64 c.kind, .int .i64 c.n, .string (str c.s)] 24)).trans hs1)
  clear HRa HRb HRc
  obtain ⟨a10, a11, a12, -, -, -⟩ := val_cells hra1
  have la1 := hra1.lt
  have HRa := Lib.hid hra1
  obtain ⟨b10, b11, b12, -, -, -⟩ := val_cells hrb1
  have lb1 := hrb1.lt
  have HRb := Lib.hid hrb1
  obtain ⟨c10, c11, c12, -, -, -⟩ := val_cells hrc1
  have lc1 := hrc1.lt
  have HRc := Lib.hid hrc1
  clear hra1 hrb1 hrc1 hs1
  go_wp2_with (go_at_call 16; refine stopAt ?_)
  unfold Hid
  refine (hma _).mono ?_
  rintro e w2 ⟨rfl, hs2⟩
  have hra2 : Row w2 w.heap.size 24 (valCs a) := HRa.out.keep hs2 trivial
  have hrb2 : Row w2 (w.heap.size + 1) 24 (valCs b) := HRb.out.keep hs2 trivial
  have hrc2 : Row w2 (w.heap.size + 2) 24 (valCs c) := HRc.out.keep hs2 trivial
  have HS2 := Lib.hid (HS1.out.trans hs2)
  clear HRa HRb HRc
  obtain ⟨a20, a21, a22, -, -, -⟩ := val_cells hra2
  have la2 := hra2.lt
  have HRa := Lib.hid hra2
  obtain ⟨b20, b21, b22, -, -, -⟩ := val_cells hrb2
  have lb2 := hrb2.lt
  have HRb := Lib.hid hrb2
  obtain ⟨c20, c21, c22, -, -, -⟩ := val_cells hrc2
  have lc2 := hrc2.lt
  have HRc := Lib.hid hrc2
  clear hra2 hrb2 hrc2 hs2
  clear a10 a11 a12 b10 b11 b12 c10 c11 c12
  go_wp2_with (go_at_call 16; refine stopAt ?_)
  unfold Hid
  refine (hmb _).mono ?_
  rintro e w3 ⟨rfl, hs3⟩
  have hra3 : Row w3 w.heap.size 24 (valCs a) := HRa.out.keep hs3 trivial
  have hrb3 : Row w3 (w.heap.size + 1) 24 (valCs b) := HRb.out.keep hs3 trivial
  have hrc3 : Row w3 (w.heap.size + 2) 24 (valCs c) := HRc.out.keep hs3 trivial
  have HS3 := Lib.hid (HS2.out.trans hs3)
  clear HRa HRb HRc
  obtain ⟨a30, a31, a32, -, -, -⟩ := val_cells hra3
  have la3 := hra3.lt
  have HRa := Lib.hid hra3
  obtain ⟨b30, b31, b32, -, -, -⟩ := val_cells hrb3
  have lb3 := hrb3.lt
  have HRb := Lib.hid hrb3
  obtain ⟨c30, c31, c32, -, -, -⟩ := val_cells hrc3
  have lc3 := hrc3.lt
  have HRc := Lib.hid hrc3
  clear hra3 hrb3 hrc3 hs3
  clear a20 a21 a22 b20 b21 b22 c20 c21 c22
  go_wp2_with (go_at_call 16; refine stopAt ?_)
  unfold Hid
  refine (hmc _).mono ?_
  rintro e w4 ⟨rfl, hs4⟩
  have hra4 : Row w4 w.heap.size 24 (valCs a) := HRa.out.keep hs4 trivial
  have hrb4 : Row w4 (w.heap.size + 1) 24 (valCs b) := HRb.out.keep hs4 trivial
  have hrc4 : Row w4 (w.heap.size + 2) 24 (valCs c) := HRc.out.keep hs4 trivial
  have HS4 := Lib.hid (HS3.out.trans hs4)
  clear HRa HRb HRc
  obtain ⟨a40, a41, a42, -, -, -⟩ := val_cells hra4
  have la4 := hra4.lt
  have HRa := Lib.hid hra4
  obtain ⟨b40, b41, b42, -, -, -⟩ := val_cells hrb4
  have lb4 := hrb4.lt
  have HRb := Lib.hid hrb4
  obtain ⟨c40, c41, c42, -, -, -⟩ := val_cells hrc4
  have lc4 := hrc4.lt
  have HRc := Lib.hid hrc4
  clear hra4 hrb4 hrc4 hs4
  clear a30 a31 a32 b30 b31 b32 c30 c31 c32
  go_wp2
  go_ret
  exact ⟨rfl, HS4.out⟩
set_option maxRecDepth 100000 in
set_option maxHeartbeats 2000000 in
theorem order_x (a b c : Val) (w : World) (hE : EnvT w) (ha : mayV a = true) (hb : mayV b = true) (hc : mayV c = true) (hx : ¬ cmpV a b ≤ 0) : Calls Tryd.prog 5 #[valV a, valV b, valV c] w (BoolP true w) := by
  have HE := Lib.hid hE
  clear hE
  have ra0 := ((Row.new w 24 (valCs a)).keep ((Same.refl (fun _ => True) _).alloc (.cells #[.int .i64 b.kind, .int .i64 b.n, .string (str b.s)] 24)) trivial).keep ((Same.refl (fun _ => True) _).alloc (.cells #[.int .i64 c.kind, .int .i64 c.n, .string (str c.s)] 24)) trivial
  have rb0 := ((Row.new (w.alloc (.cells #[.int .i64 a.kind, .int .i64 a.n, .string (str a.s)] 24)) 24 (valCs b))).keep ((Same.refl (fun _ => True) _).alloc (.cells #[.int .i64 c.kind, .int .i64 c.n, .string (str c.s)] 24)) trivial
  have rc0 := Row.new ((w.alloc (.cells #[.int .i64 a.kind, .int .i64 a.n, .string (str a.s)] 24)).alloc (.cells #[.int .i64 b.kind, .int .i64 b.n, .string (str b.s)] 24)) 24 (valCs c)
  rw [size_alloc1] at rb0
  rw [size_alloc1, size_alloc1, Nat.add_assoc] at rc0
  have HRa : Hid (Row (((w.alloc (.cells #[.int .i64 a.kind, .int .i64 a.n, .string (str a.s)] 24)).alloc (.cells #[.int .i64 b.kind, .int .i64 b.n, .string (str b.s)] 24)).alloc (.cells #[.int .i64 c.kind, .int .i64 c.n, .string (str c.s)] 24)) w.heap.size 24 (valCs a)) := Lib.hid ra0
  have HRb : Hid (Row (((w.alloc (.cells #[.int .i64 a.kind, .int .i64 a.n, .string (str a.s)] 24)).alloc (.cells #[.int .i64 b.kind, .int .i64 b.n, .string (str b.s)] 24)).alloc (.cells #[.int .i64 c.kind, .int .i64 c.n, .string (str c.s)] 24)) (w.heap.size + 1) 24 (valCs b)) := Lib.hid rb0
  have HRc : Hid (Row (((w.alloc (.cells #[.int .i64 a.kind, .int .i64 a.n, .string (str a.s)] 24)).alloc (.cells #[.int .i64 b.kind, .int .i64 b.n, .string (str b.s)] 24)).alloc (.cells #[.int .i64 c.kind, .int .i64 c.n, .string (str c.s)] 24)) (w.heap.size + 2) 24 (valCs c)) := Lib.hid rc0
  clear ra0 rb0 rc0
  unfold BoolP
  go_enter Tryd.func5, Tryd.ntmps5
  obtain ⟨⟨f1, f2⟩, f3, f4⟩ := cmp_facts a b c
  have q1 := fun W => exCompare_any a b W
  have q2 := fun W => exCompare_any b a W
  have q3 := fun W => refCompare_any a b W
  have q4 := fun W => exCompare_any b c W
  have q5 := fun W => exCompare_any a c W
  rw [f3] at q2
  obtain ⟨X, hX⟩ : ∃ X, X = cmpV a b := ⟨_, rfl⟩
  obtain ⟨Y, hY⟩ : ∃ Y, Y = cmpV b c := ⟨_, rfl⟩
  obtain ⟨Z, hZ⟩ : ∃ Z, Z = cmpV a c := ⟨_, rfl⟩
  rw [← hX] at f1 f2 f4 q1 q2 q3 hx
  rw [← hY] at f4 q4
  rw [← hZ] at f4 q5
  have F4 := Lib.hid f4
  clear hX hY hZ f3 f4
  have hma := fun W => exMay_any a W
  rw [ha] at hma
  unfold BoolP at hma
  have hmb := fun W => exMay_any b W
  rw [hb] at hmb
  unfold BoolP at hmb
  have hmc := fun W => exMay_any c W
  rw [hc] at hmc
  unfold BoolP at hmc
  go_wp2_with (go_at_call 8; refine stopAt ?_)
  unfold Hid
  refine (begun_any _ (HE.out.keepAll (((Same.refl (fun _ => True) w).alloc _).alloc _ |>.alloc _))).mono ?_
  rintro e w1 ⟨rfl, hs1⟩
  have hra1 : Row w1 w.heap.size 24 (valCs a) := HRa.out.keep hs1 trivial
  have hrb1 : Row w1 (w.heap.size + 1) 24 (valCs b) := HRb.out.keep hs1 trivial
  have hrc1 : Row w1 (w.heap.size + 2) 24 (valCs c) := HRc.out.keep hs1 trivial
  have HS1 := Lib.hid ((((Same.refl (fun _ => True) w).alloc (.cells #[.int .i64 a.kind, .int .i64 a.n, .string (str a.s)] 24)).alloc (.cells #[.int .i64 b.kind, .int .i64 b.n, .string (str b.s)] 24) |>.alloc (.cells #[.int .i64 c.kind, .int .i64 c.n, .string (str c.s)] 24)).trans hs1)
  clear HRa HRb HRc
  obtain ⟨a10, a11, a12, -, -, -⟩ := val_cells hra1
  have la1 := hra1.lt
  have HRa := Lib.hid hra1
  obtain ⟨b10, b11, b12, -, -, -⟩ := val_cells hrb1
  have lb1 := hrb1.lt
  have HRb := Lib.hid hrb1
  obtain ⟨c10, c11, c12, -, -, -⟩ := val_cells hrc1
  have lc1 := hrc1.lt
  have HRc := Lib.hid hrc1
  clear hra1 hrb1 hrc1 hs1
  go_wp2_with (go_at_call 16; refine stopAt ?_)
  unfold Hid
  refine (hma _).mono ?_
  rintro e w2 ⟨rfl, hs2⟩
  have hra2 : Row w2 w.heap.size 24 (valCs a) := HRa.out.keep hs2 trivial
  have hrb2 : Row w2 (w.heap.size + 1) 24 (valCs b) := HRb.out.keep hs2 trivial
  have hrc2 : Row w2 (w.heap.size + 2) 24 (valCs c) := HRc.out.keep hs2 trivial
  have HS2 := Lib.hid (HS1.out.trans hs2)
  clear HRa HRb HRc
  obtain ⟨a20, a21, a22, -, -, -⟩ := val_cells hra2
  have la2 := hra2.lt
  have HRa := Lib.hid hra2
  obtain ⟨b20, b21, b22, -, -, -⟩ := val_cells hrb2
  have lb2 := hrb2.lt
  have HRb := Lib.hid hrb2
  obtain ⟨c20, c21, c22, -, -, -⟩ := val_cells hrc2
  have lc2 := hrc2.lt
  have HRc := Lib.hid hrc2
  clear hra2 hrb2 hrc2 hs2
  clear a10 a11 a12 b10 b11 b12 c10 c11 c12
  go_wp2_with (go_at_call 16; refine stopAt ?_)
  unfold Hid
  refine (hmb _).mono ?_
  rintro e w3 ⟨rfl, hs3⟩
  have hra3 : Row w3 w.heap.size 24 (valCs a) := HRa.out.keep hs3 trivial
  have hrb3 : Row w3 (w.heap.size + 1) 24 (valCs b) := HRb.out.keep hs3 trivial
  have hrc3 : Row w3 (w.heap.size + 2) 24 (valCs c) := HRc.out.keep hs3 trivial
  have HS3 := Lib.hid (HS2.out.trans hs3)
  clear HRa HRb HRc
  obtain ⟨a30, a31, a32, -, -, -⟩ := val_cells hra3
  have la3 := hra3.lt
  have HRa := Lib.hid hra3
  obtain ⟨b30, b31, b32, -, -, -⟩ := val_cells hrb3
  have lb3 := hrb3.lt
  have HRb := Lib.hid hrb3
  obtain ⟨c30, c31, c32, -, -, -⟩ := val_cells hrc3
  have lc3 := hrc3.lt
  have HRc := Lib.hid hrc3
  clear hra3 hrb3 hrc3 hs3
  clear a20 a21 a22 b20 b21 b22 c20 c21 c22
  go_wp2_with (go_at_call 16; refine stopAt ?_)
  unfold Hid
  refine (hmc _).mono ?_
  rintro e w4 ⟨rfl, hs4⟩
  have hra4 : Row w4 w.heap.size 24 (valCs a) := HRa.out.keep hs4 trivial
  have hrb4 : Row w4 (w.heap.size + 1) 24 (valCs b) := HRb.out.keep hs4 trivial
  have hrc4 : Row w4 (w.heap.size + 2) 24 (valCs c) := HRc.out.keep hs4 trivial
  have HS4 := Lib.hid (HS3.out.trans hs4)
  clear HRa HRb HRc
  obtain ⟨a40, a41, a42, -, -, -⟩ := val_cells hra4
  have la4 := hra4.lt
  have HRa := Lib.hid hra4
  obtain ⟨b40, b41, b42, -, -, -⟩ := val_cells hrb4
  have lb4 := hrb4.lt
  have HRb := Lib.hid hrb4
  obtain ⟨c40, c41, c42, -, -, -⟩ := val_cells hrc4
  have lc4 := hrc4.lt
  have HRc := Lib.hid hrc4
  clear hra4 hrb4 hrc4 hs4
  clear a30 a31 a32 b30 b31 b32 c30 c31 c32
  go_wp2_with (go_at_call 21; refine stopAt ?_)
  unfold Hid
  refine (q1 _).mono ?_
  rintro e w5 ⟨rfl, hs5⟩
  have hra5 : Row w5 w.heap.size 24 (valCs a) := HRa.out.keep hs5 trivial
  have hrb5 : Row w5 (w.heap.size + 1) 24 (valCs b) := HRb.out.keep hs5 trivial
  have hrc5 : Row w5 (w.heap.size + 2) 24 (valCs c) := HRc.out.keep hs5 trivial
  have HS5 := Lib.hid (HS4.out.trans hs5)
  clear HRa HRb HRc
  obtain ⟨a50, a51, a52, -, -, -⟩ := val_cells hra5
  have la5 := hra5.lt
  have HRa := Lib.hid hra5
  obtain ⟨b50, b51, b52, -, -, -⟩ := val_cells hrb5
  have lb5 := hrb5.lt
  have HRb := Lib.hid hrb5
  obtain ⟨c50, c51, c52, -, -, -⟩ := val_cells hrc5
  have lc5 := hrc5.lt
  have HRc := Lib.hid hrc5
  clear hra5 hrb5 hrc5 hs5
  clear a40 a41 a42 b40 b41 b42 c40 c41 c42
  go_wp2_with (go_at_call 21; refine stopAt ?_)
  unfold Hid
  refine (q2 _).mono ?_
  rintro e w6 ⟨rfl, hs6⟩
  have hra6 : Row w6 w.heap.size 24 (valCs a) := HRa.out.keep hs6 trivial
  have hrb6 : Row w6 (w.heap.size + 1) 24 (valCs b) := HRb.out.keep hs6 trivial
  have hrc6 : Row w6 (w.heap.size + 2) 24 (valCs c) := HRc.out.keep hs6 trivial
  have HS6 := Lib.hid (HS5.out.trans hs6)
  clear HRa HRb HRc
  obtain ⟨a60, a61, a62, -, -, -⟩ := val_cells hra6
  have la6 := hra6.lt
  have HRa := Lib.hid hra6
  obtain ⟨b60, b61, b62, -, -, -⟩ := val_cells hrb6
  have lb6 := hrb6.lt
  have HRb := Lib.hid hrb6
  obtain ⟨c60, c61, c62, -, -, -⟩ := val_cells hrc6
  have lc6 := hrc6.lt
  have HRc := Lib.hid hrc6
  clear hra6 hrb6 hrc6 hs6
  clear a50 a51 a52 b50 b51 b52 c50 c51 c52
  go_wp2_with (go_at_call 22; refine stopAt ?_)
  unfold Hid
  refine (q3 _).mono ?_
  rintro e w7 ⟨rfl, hs7⟩
  have hra7 : Row w7 w.heap.size 24 (valCs a) := HRa.out.keep hs7 trivial
  have hrb7 : Row w7 (w.heap.size + 1) 24 (valCs b) := HRb.out.keep hs7 trivial
  have hrc7 : Row w7 (w.heap.size + 2) 24 (valCs c) := HRc.out.keep hs7 trivial
  have HS7 := Lib.hid (HS6.out.trans hs7)
  clear HRa HRb HRc
  obtain ⟨a70, a71, a72, -, -, -⟩ := val_cells hra7
  have la7 := hra7.lt
  have HRa := Lib.hid hra7
  obtain ⟨b70, b71, b72, -, -, -⟩ := val_cells hrb7
  have lb7 := hrb7.lt
  have HRb := Lib.hid hrb7
  obtain ⟨c70, c71, c72, -, -, -⟩ := val_cells hrc7
  have lc7 := hrc7.lt
  have HRc := Lib.hid hrc7
  clear hra7 hrb7 hrc7 hs7
  clear a60 a61 a62 b60 b61 b62 c60 c61 c62
  go_wp2
  go_ret
  exact ⟨rfl, HS7.out⟩
set_option maxRecDepth 100000 in
set_option maxHeartbeats 2000000 in
theorem order_y (a b c : Val) (w : World) (hE : EnvT w) (ha : mayV a = true) (hb : mayV b = true) (hc : mayV c = true) (hx : cmpV a b ≤ 0) (hy : ¬ cmpV b c ≤ 0) : Calls Tryd.prog 5 #[valV a, valV b, valV c] w (BoolP true w) := by
  have HE := Lib.hid hE
  clear hE
  have ra0 := ((Row.new w 24 (valCs a)).keep ((Same.refl (fun _ => True) _).alloc (.cells #[.int .i64 b.kind, .int .i64 b.n, .string (str b.s)] 24)) trivial).keep ((Same.refl (fun _ => True) _).alloc (.cells #[.int .i64 c.kind, .int .i64 c.n, .string (str c.s)] 24)) trivial
  have rb0 := ((Row.new (w.alloc (.cells #[.int .i64 a.kind, .int .i64 a.n, .string (str a.s)] 24)) 24 (valCs b))).keep ((Same.refl (fun _ => True) _).alloc (.cells #[.int .i64 c.kind, .int .i64 c.n, .string (str c.s)] 24)) trivial
  have rc0 := Row.new ((w.alloc (.cells #[.int .i64 a.kind, .int .i64 a.n, .string (str a.s)] 24)).alloc (.cells #[.int .i64 b.kind, .int .i64 b.n, .string (str b.s)] 24)) 24 (valCs c)
  rw [size_alloc1] at rb0
  rw [size_alloc1, size_alloc1, Nat.add_assoc] at rc0
  have HRa : Hid (Row (((w.alloc (.cells #[.int .i64 a.kind, .int .i64 a.n, .string (str a.s)] 24)).alloc (.cells #[.int .i64 b.kind, .int .i64 b.n, .string (str b.s)] 24)).alloc (.cells #[.int .i64 c.kind, .int .i64 c.n, .string (str c.s)] 24)) w.heap.size 24 (valCs a)) := Lib.hid ra0
  have HRb : Hid (Row (((w.alloc (.cells #[.int .i64 a.kind, .int .i64 a.n, .string (str a.s)] 24)).alloc (.cells #[.int .i64 b.kind, .int .i64 b.n, .string (str b.s)] 24)).alloc (.cells #[.int .i64 c.kind, .int .i64 c.n, .string (str c.s)] 24)) (w.heap.size + 1) 24 (valCs b)) := Lib.hid rb0
  have HRc : Hid (Row (((w.alloc (.cells #[.int .i64 a.kind, .int .i64 a.n, .string (str a.s)] 24)).alloc (.cells #[.int .i64 b.kind, .int .i64 b.n, .string (str b.s)] 24)).alloc (.cells #[.int .i64 c.kind, .int .i64 c.n, .string (str c.s)] 24)) (w.heap.size + 2) 24 (valCs c)) := Lib.hid rc0
  clear ra0 rb0 rc0
  unfold BoolP
  go_enter Tryd.func5, Tryd.ntmps5
  obtain ⟨⟨f1, f2⟩, f3, f4⟩ := cmp_facts a b c
  have q1 := fun W => exCompare_any a b W
  have q2 := fun W => exCompare_any b a W
  have q3 := fun W => refCompare_any a b W
  have q4 := fun W => exCompare_any b c W
  have q5 := fun W => exCompare_any a c W
  rw [f3] at q2
  obtain ⟨X, hX⟩ : ∃ X, X = cmpV a b := ⟨_, rfl⟩
  obtain ⟨Y, hY⟩ : ∃ Y, Y = cmpV b c := ⟨_, rfl⟩
  obtain ⟨Z, hZ⟩ : ∃ Z, Z = cmpV a c := ⟨_, rfl⟩
  rw [← hX] at f1 f2 f4 q1 q2 q3 hx
  rw [← hY] at f4 q4 hy
  rw [← hZ] at f4 q5
  have F4 := Lib.hid f4
  clear hX hY hZ f3 f4
  have hma := fun W => exMay_any a W
  rw [ha] at hma
  unfold BoolP at hma
  have hmb := fun W => exMay_any b W
  rw [hb] at hmb
  unfold BoolP at hmb
  have hmc := fun W => exMay_any c W
  rw [hc] at hmc
  unfold BoolP at hmc
  go_wp2_with (go_at_call 8; refine stopAt ?_)
  unfold Hid
  refine (begun_any _ (HE.out.keepAll (((Same.refl (fun _ => True) w).alloc _).alloc _ |>.alloc _))).mono ?_
  rintro e w1 ⟨rfl, hs1⟩
  have hra1 : Row w1 w.heap.size 24 (valCs a) := HRa.out.keep hs1 trivial
  have hrb1 : Row w1 (w.heap.size + 1) 24 (valCs b) := HRb.out.keep hs1 trivial
  have hrc1 : Row w1 (w.heap.size + 2) 24 (valCs c) := HRc.out.keep hs1 trivial
  have HS1 := Lib.hid ((((Same.refl (fun _ => True) w).alloc (.cells #[.int .i64 a.kind, .int .i64 a.n, .string (str a.s)] 24)).alloc (.cells #[.int .i64 b.kind, .int .i64 b.n, .string (str b.s)] 24) |>.alloc (.cells #[.int .i64 c.kind, .int .i64 c.n, .string (str c.s)] 24)).trans hs1)
  clear HRa HRb HRc
  obtain ⟨a10, a11, a12, -, -, -⟩ := val_cells hra1
  have la1 := hra1.lt
  have HRa := Lib.hid hra1
  obtain ⟨b10, b11, b12, -, -, -⟩ := val_cells hrb1
  have lb1 := hrb1.lt
  have HRb := Lib.hid hrb1
  obtain ⟨c10, c11, c12, -, -, -⟩ := val_cells hrc1
  have lc1 := hrc1.lt
  have HRc := Lib.hid hrc1
  clear hra1 hrb1 hrc1 hs1
  go_wp2_with (go_at_call 16; refine stopAt ?_)
  unfold Hid
  refine (hma _).mono ?_
  rintro e w2 ⟨rfl, hs2⟩
  have hra2 : Row w2 w.heap.size 24 (valCs a) := HRa.out.keep hs2 trivial
  have hrb2 : Row w2 (w.heap.size + 1) 24 (valCs b) := HRb.out.keep hs2 trivial
  have hrc2 : Row w2 (w.heap.size + 2) 24 (valCs c) := HRc.out.keep hs2 trivial
  have HS2 := Lib.hid (HS1.out.trans hs2)
  clear HRa HRb HRc
  obtain ⟨a20, a21, a22, -, -, -⟩ := val_cells hra2
  have la2 := hra2.lt
  have HRa := Lib.hid hra2
  obtain ⟨b20, b21, b22, -, -, -⟩ := val_cells hrb2
  have lb2 := hrb2.lt
  have HRb := Lib.hid hrb2
  obtain ⟨c20, c21, c22, -, -, -⟩ := val_cells hrc2
  have lc2 := hrc2.lt
  have HRc := Lib.hid hrc2
  clear hra2 hrb2 hrc2 hs2
  clear a10 a11 a12 b10 b11 b12 c10 c11 c12
  go_wp2_with (go_at_call 16; refine stopAt ?_)
  unfold Hid
  refine (hmb _).mono ?_
  rintro e w3 ⟨rfl, hs3⟩
  have hra3 : Row w3 w.heap.size 24 (valCs a) := HRa.out.keep hs3 trivial
  have hrb3 : Row w3 (w.heap.size + 1) 24 (valCs b) := HRb.out.keep hs3 trivial
  have hrc3 : Row w3 (w.heap.size + 2) 24 (valCs c) := HRc.out.keep hs3 trivial
  have HS3 := Lib.hid (HS2.out.trans hs3)
  clear HRa HRb HRc
  obtain ⟨a30, a31, a32, -, -, -⟩ := val_cells hra3
  have la3 := hra3.lt
  have HRa := Lib.hid hra3
  obtain ⟨b30, b31, b32, -, -, -⟩ := val_cells hrb3
  have lb3 := hrb3.lt
  have HRb := Lib.hid hrb3
  obtain ⟨c30, c31, c32, -, -, -⟩ := val_cells hrc3
  have lc3 := hrc3.lt
  have HRc := Lib.hid hrc3
  clear hra3 hrb3 hrc3 hs3
  clear a20 a21 a22 b20 b21 b22 c20 c21 c22
  go_wp2_with (go_at_call 16; refine stopAt ?_)
  unfold Hid
  refine (hmc _).mono ?_
  rintro e w4 ⟨rfl, hs4⟩
  have hra4 : Row w4 w.heap.size 24 (valCs a) := HRa.out.keep hs4 trivial
  have hrb4 : Row w4 (w.heap.size + 1) 24 (valCs b) := HRb.out.keep hs4 trivial
  have hrc4 : Row w4 (w.heap.size + 2) 24 (valCs c) := HRc.out.keep hs4 trivial
  have HS4 := Lib.hid (HS3.out.trans hs4)
  clear HRa HRb HRc
  obtain ⟨a40, a41, a42, -, -, -⟩ := val_cells hra4
  have la4 := hra4.lt
  have HRa := Lib.hid hra4
  obtain ⟨b40, b41, b42, -, -, -⟩ := val_cells hrb4
  have lb4 := hrb4.lt
  have HRb := Lib.hid hrb4
  obtain ⟨c40, c41, c42, -, -, -⟩ := val_cells hrc4
  have lc4 := hrc4.lt
  have HRc := Lib.hid hrc4
  clear hra4 hrb4 hrc4 hs4
  clear a30 a31 a32 b30 b31 b32 c30 c31 c32
  go_wp2_with (go_at_call 21; refine stopAt ?_)
  unfold Hid
  refine (q1 _).mono ?_
  rintro e w5 ⟨rfl, hs5⟩
  have hra5 : Row w5 w.heap.size 24 (valCs a) := HRa.out.keep hs5 trivial
  have hrb5 : Row w5 (w.heap.size + 1) 24 (valCs b) := HRb.out.keep hs5 trivial
  have hrc5 : Row w5 (w.heap.size + 2) 24 (valCs c) := HRc.out.keep hs5 trivial
  have HS5 := Lib.hid (HS4.out.trans hs5)
  clear HRa HRb HRc
  obtain ⟨a50, a51, a52, -, -, -⟩ := val_cells hra5
  have la5 := hra5.lt
  have HRa := Lib.hid hra5
  obtain ⟨b50, b51, b52, -, -, -⟩ := val_cells hrb5
  have lb5 := hrb5.lt
  have HRb := Lib.hid hrb5
  obtain ⟨c50, c51, c52, -, -, -⟩ := val_cells hrc5
  have lc5 := hrc5.lt
  have HRc := Lib.hid hrc5
  clear hra5 hrb5 hrc5 hs5
  clear a40 a41 a42 b40 b41 b42 c40 c41 c42
  go_wp2_with (go_at_call 21; refine stopAt ?_)
  unfold Hid
  refine (q2 _).mono ?_
  rintro e w6 ⟨rfl, hs6⟩
  have hra6 : Row w6 w.heap.size 24 (valCs a) := HRa.out.keep hs6 trivial
  have hrb6 : Row w6 (w.heap.size + 1) 24 (valCs b) := HRb.out.keep hs6 trivial
  have hrc6 : Row w6 (w.heap.size + 2) 24 (valCs c) := HRc.out.keep hs6 trivial
  have HS6 := Lib.hid (HS5.out.trans hs6)
  clear HRa HRb HRc
  obtain ⟨a60, a61, a62, -, -, -⟩ := val_cells hra6
  have la6 := hra6.lt
  have HRa := Lib.hid hra6
  obtain ⟨b60, b61, b62, -, -, -⟩ := val_cells hrb6
  have lb6 := hrb6.lt
  have HRb := Lib.hid hrb6
  obtain ⟨c60, c61, c62, -, -, -⟩ := val_cells hrc6
  have lc6 := hrc6.lt
  have HRc := Lib.hid hrc6
  clear hra6 hrb6 hrc6 hs6
  clear a50 a51 a52 b50 b51 b52 c50 c51 c52
  go_wp2_with (go_at_call 22; refine stopAt ?_)
  unfold Hid
  refine (q3 _).mono ?_
  rintro e w7 ⟨rfl, hs7⟩
  have hra7 : Row w7 w.heap.size 24 (valCs a) := HRa.out.keep hs7 trivial
  have hrb7 : Row w7 (w.heap.size + 1) 24 (valCs b) := HRb.out.keep hs7 trivial
  have hrc7 : Row w7 (w.heap.size + 2) 24 (valCs c) := HRc.out.keep hs7 trivial
  have HS7 := Lib.hid (HS6.out.trans hs7)
  clear HRa HRb HRc
  obtain ⟨a70, a71, a72, -, -, -⟩ := val_cells hra7
  have la7 := hra7.lt
  have HRa := Lib.hid hra7
  obtain ⟨b70, b71, b72, -, -, -⟩ := val_cells hrb7
  have lb7 := hrb7.lt
  have HRb := Lib.hid hrb7
  obtain ⟨c70, c71, c72, -, -, -⟩ := val_cells hrc7
  have lc7 := hrc7.lt
  have HRc := Lib.hid hrc7
  clear hra7 hrb7 hrc7 hs7
  clear a60 a61 a62 b60 b61 b62 c60 c61 c62
  go_wp2_with (go_at_call 21; refine stopAt ?_)
  unfold Hid
  refine (q4 _).mono ?_
  rintro e w8 ⟨rfl, hs8⟩
  have hra8 : Row w8 w.heap.size 24 (valCs a) := HRa.out.keep hs8 trivial
  have hrb8 : Row w8 (w.heap.size + 1) 24 (valCs b) := HRb.out.keep hs8 trivial
  have hrc8 : Row w8 (w.heap.size + 2) 24 (valCs c) := HRc.out.keep hs8 trivial
  have HS8 := Lib.hid (HS7.out.trans hs8)
  clear HRa HRb HRc
  obtain ⟨a80, a81, a82, -, -, -⟩ := val_cells hra8
  have la8 := hra8.lt
  have HRa := Lib.hid hra8
  obtain ⟨b80, b81, b82, -, -, -⟩ := val_cells hrb8
  have lb8 := hrb8.lt
  have HRb := Lib.hid hrb8
  obtain ⟨c80, c81, c82, -, -, -⟩ := val_cells hrc8
  have lc8 := hrc8.lt
  have HRc := Lib.hid hrc8
  clear hra8 hrb8 hrc8 hs8
  clear a70 a71 a72 b70 b71 b72 c70 c71 c72
  go_wp2
  go_ret
  exact ⟨rfl, HS8.out⟩
set_option maxRecDepth 100000 in
set_option maxHeartbeats 2000000 in
theorem order_z (a b c : Val) (w : World) (hE : EnvT w) (ha : mayV a = true) (hb : mayV b = true) (hc : mayV c = true) (hx : cmpV a b ≤ 0) (hy : cmpV b c ≤ 0) : Calls Tryd.prog 5 #[valV a, valV b, valV c] w (BoolP true w) := by
  have HE := Lib.hid hE
  clear hE
  have ra0 := ((Row.new w 24 (valCs a)).keep ((Same.refl (fun _ => True) _).alloc (.cells #[.int .i64 b.kind, .int .i64 b.n, .string (str b.s)] 24)) trivial).keep ((Same.refl (fun _ => True) _).alloc (.cells #[.int .i64 c.kind, .int .i64 c.n, .string (str c.s)] 24)) trivial
  have rb0 := ((Row.new (w.alloc (.cells #[.int .i64 a.kind, .int .i64 a.n, .string (str a.s)] 24)) 24 (valCs b))).keep ((Same.refl (fun _ => True) _).alloc (.cells #[.int .i64 c.kind, .int .i64 c.n, .string (str c.s)] 24)) trivial
  have rc0 := Row.new ((w.alloc (.cells #[.int .i64 a.kind, .int .i64 a.n, .string (str a.s)] 24)).alloc (.cells #[.int .i64 b.kind, .int .i64 b.n, .string (str b.s)] 24)) 24 (valCs c)
  rw [size_alloc1] at rb0
  rw [size_alloc1, size_alloc1, Nat.add_assoc] at rc0
  have HRa : Hid (Row (((w.alloc (.cells #[.int .i64 a.kind, .int .i64 a.n, .string (str a.s)] 24)).alloc (.cells #[.int .i64 b.kind, .int .i64 b.n, .string (str b.s)] 24)).alloc (.cells #[.int .i64 c.kind, .int .i64 c.n, .string (str c.s)] 24)) w.heap.size 24 (valCs a)) := Lib.hid ra0
  have HRb : Hid (Row (((w.alloc (.cells #[.int .i64 a.kind, .int .i64 a.n, .string (str a.s)] 24)).alloc (.cells #[.int .i64 b.kind, .int .i64 b.n, .string (str b.s)] 24)).alloc (.cells #[.int .i64 c.kind, .int .i64 c.n, .string (str c.s)] 24)) (w.heap.size + 1) 24 (valCs b)) := Lib.hid rb0
  have HRc : Hid (Row (((w.alloc (.cells #[.int .i64 a.kind, .int .i64 a.n, .string (str a.s)] 24)).alloc (.cells #[.int .i64 b.kind, .int .i64 b.n, .string (str b.s)] 24)).alloc (.cells #[.int .i64 c.kind, .int .i64 c.n, .string (str c.s)] 24)) (w.heap.size + 2) 24 (valCs c)) := Lib.hid rc0
  clear ra0 rb0 rc0
  unfold BoolP
  go_enter Tryd.func5, Tryd.ntmps5
  obtain ⟨⟨f1, f2⟩, f3, f4⟩ := cmp_facts a b c
  have q1 := fun W => exCompare_any a b W
  have q2 := fun W => exCompare_any b a W
  have q3 := fun W => refCompare_any a b W
  have q4 := fun W => exCompare_any b c W
  have q5 := fun W => exCompare_any a c W
  rw [f3] at q2
  obtain ⟨X, hX⟩ : ∃ X, X = cmpV a b := ⟨_, rfl⟩
  obtain ⟨Y, hY⟩ : ∃ Y, Y = cmpV b c := ⟨_, rfl⟩
  obtain ⟨Z, hZ⟩ : ∃ Z, Z = cmpV a c := ⟨_, rfl⟩
  rw [← hX] at f1 f2 f4 q1 q2 q3 hx
  rw [← hY] at f4 q4 hy
  rw [← hZ] at f4 q5
  have hz := f4 hx hy
  clear hX hY hZ f3 f4
  have hma := fun W => exMay_any a W
  rw [ha] at hma
  unfold BoolP at hma
  have hmb := fun W => exMay_any b W
  rw [hb] at hmb
  unfold BoolP at hmb
  have hmc := fun W => exMay_any c W
  rw [hc] at hmc
  unfold BoolP at hmc
  go_wp2_with (go_at_call 8; refine stopAt ?_)
  unfold Hid
  refine (begun_any _ (HE.out.keepAll (((Same.refl (fun _ => True) w).alloc _).alloc _ |>.alloc _))).mono ?_
  rintro e w1 ⟨rfl, hs1⟩
  have hra1 : Row w1 w.heap.size 24 (valCs a) := HRa.out.keep hs1 trivial
  have hrb1 : Row w1 (w.heap.size + 1) 24 (valCs b) := HRb.out.keep hs1 trivial
  have hrc1 : Row w1 (w.heap.size + 2) 24 (valCs c) := HRc.out.keep hs1 trivial
  have HS1 := Lib.hid ((((Same.refl (fun _ => True) w).alloc (.cells #[.int .i64 a.kind, .int .i64 a.n, .string (str a.s)] 24)).alloc (.cells #[.int .i64 b.kind, .int .i64 b.n, .string (str b.s)] 24) |>.alloc (.cells #[.int .i64 c.kind, .int .i64 c.n, .string (str c.s)] 24)).trans hs1)
  clear HRa HRb HRc
  obtain ⟨a10, a11, a12, -, -, -⟩ := val_cells hra1
  have la1 := hra1.lt
  have HRa := Lib.hid hra1
  obtain ⟨b10, b11, b12, -, -, -⟩ := val_cells hrb1
  have lb1 := hrb1.lt
  have HRb := Lib.hid hrb1
  obtain ⟨c10, c11, c12, -, -, -⟩ := val_cells hrc1
  have lc1 := hrc1.lt
  have HRc := Lib.hid hrc1
  clear hra1 hrb1 hrc1 hs1
  go_wp2_with (go_at_call 16; refine stopAt ?_)
  unfold Hid
  refine (hma _).mono ?_
  rintro e w2 ⟨rfl, hs2⟩
  have hra2 : Row w2 w.heap.size 24 (valCs a) := HRa.out.keep hs2 trivial
  have hrb2 : Row w2 (w.heap.size + 1) 24 (valCs b) := HRb.out.keep hs2 trivial
  have hrc2 : Row w2 (w.heap.size + 2) 24 (valCs c) := HRc.out.keep hs2 trivial
  have HS2 := Lib.hid (HS1.out.trans hs2)
  clear HRa HRb HRc
  obtain ⟨a20, a21, a22, -, -, -⟩ := val_cells hra2
  have la2 := hra2.lt
  have HRa := Lib.hid hra2
  obtain ⟨b20, b21, b22, -, -, -⟩ := val_cells hrb2
  have lb2 := hrb2.lt
  have HRb := Lib.hid hrb2
  obtain ⟨c20, c21, c22, -, -, -⟩ := val_cells hrc2
  have lc2 := hrc2.lt
  have HRc := Lib.hid hrc2
  clear hra2 hrb2 hrc2 hs2
  clear a10 a11 a12 b10 b11 b12 c10 c11 c12
  go_wp2_with (go_at_call 16; refine stopAt ?_)
  unfold Hid
  refine (hmb _).mono ?_
  rintro e w3 ⟨rfl, hs3⟩
  have hra3 : Row w3 w.heap.size 24 (valCs a) := HRa.out.keep hs3 trivial
  have hrb3 : Row w3 (w.heap.size + 1) 24 (valCs b) := HRb.out.keep hs3 trivial
  have hrc3 : Row w3 (w.heap.size + 2) 24 (valCs c) := HRc.out.keep hs3 trivial
  have HS3 := Lib.hid (HS2.out.trans hs3)
  clear HRa HRb HRc
  obtain ⟨a30, a31, a32, -, -, -⟩ := val_cells hra3
  have la3 := hra3.lt
  have HRa := Lib.hid hra3
  obtain ⟨b30, b31, b32, -, -, -⟩ := val_cells hrb3
  have lb3 := hrb3.lt
  have HRb := Lib.hid hrb3
  obtain ⟨c30, c31, c32, -, -, -⟩ := val_cells hrc3
  have lc3 := hrc3.lt
  have HRc := Lib.hid hrc3
  clear hra3 hrb3 hrc3 hs3
  clear a20 a21 a22 b20 b21 b22 c20 c21 c22
  go_wp2_with (go_at_call 16; refine stopAt ?_)
  unfold Hid
  refine (hmc _).mono ?_
  rintro e w4 ⟨rfl, hs4⟩
  have hra4 : Row w4 w.heap.size 24 (valCs a) := HRa.out.keep hs4 trivial
  have hrb4 : Row w4 (w.heap.size + 1) 24 (valCs b) := HRb.out.keep hs4 trivial
  have hrc4 : Row w4 (w.heap.size + 2) 24 (valCs c) := HRc.out.keep hs4 trivial
  have HS4 := Lib.hid (HS3.out.trans hs4)
  clear HRa HRb HRc
  obtain ⟨a40, a41, a42, -, -, -⟩ := val_cells hra4
  have la4 := hra4.lt
  have HRa := Lib.hid hra4
  obtain ⟨b40, b41, b42, -, -, -⟩ := val_cells hrb4
  have lb4 := hrb4.lt
  have HRb := Lib.hid hrb4
  obtain ⟨c40, c41, c42, -, -, -⟩ := val_cells hrc4
  have lc4 := hrc4.lt
  have HRc := Lib.hid hrc4
  clear hra4 hrb4 hrc4 hs4
  clear a30 a31 a32 b30 b31 b32 c30 c31 c32
  go_wp2_with (go_at_call 21; refine stopAt ?_)
  unfold Hid
  refine (q1 _).mono ?_
  rintro e w5 ⟨rfl, hs5⟩
  have hra5 : Row w5 w.heap.size 24 (valCs a) := HRa.out.keep hs5 trivial
  have hrb5 : Row w5 (w.heap.size + 1) 24 (valCs b) := HRb.out.keep hs5 trivial
  have hrc5 : Row w5 (w.heap.size + 2) 24 (valCs c) := HRc.out.keep hs5 trivial
  have HS5 := Lib.hid (HS4.out.trans hs5)
  clear HRa HRb HRc
  obtain ⟨a50, a51, a52, -, -, -⟩ := val_cells hra5
  have la5 := hra5.lt
  have HRa := Lib.hid hra5
  obtain ⟨b50, b51, b52, -, -, -⟩ := val_cells hrb5
  have lb5 := hrb5.lt
  have HRb := Lib.hid hrb5
  obtain ⟨c50, c51, c52, -, -, -⟩ := val_cells hrc5
  have lc5 := hrc5.lt
  have HRc := Lib.hid hrc5
  clear hra5 hrb5 hrc5 hs5
  clear a40 a41 a42 b40 b41 b42 c40 c41 c42
  go_wp2_with (go_at_call 21; refine stopAt ?_)
  unfold Hid
  refine (q2 _).mono ?_
  rintro e w6 ⟨rfl, hs6⟩
  have hra6 : Row w6 w.heap.size 24 (valCs a) := HRa.out.keep hs6 trivial
  have hrb6 : Row w6 (w.heap.size + 1) 24 (valCs b) := HRb.out.keep hs6 trivial
  have hrc6 : Row w6 (w.heap.size + 2) 24 (valCs c) := HRc.out.keep hs6 trivial
  have HS6 := Lib.hid (HS5.out.trans hs6)
  clear HRa HRb HRc
  obtain ⟨a60, a61, a62, -, -, -⟩ := val_cells hra6
  have la6 := hra6.lt
  have HRa := Lib.hid hra6
  obtain ⟨b60, b61, b62, -, -, -⟩ := val_cells hrb6
  have lb6 := hrb6.lt
  have HRb := Lib.hid hrb6
  obtain ⟨c60, c61, c62, -, -, -⟩ := val_cells hrc6
  have lc6 := hrc6.lt
  have HRc := Lib.hid hrc6
  clear hra6 hrb6 hrc6 hs6
  clear a50 a51 a52 b50 b51 b52 c50 c51 c52
  go_wp2_with (go_at_call 22; refine stopAt ?_)
  unfold Hid
  refine (q3 _).mono ?_
  rintro e w7 ⟨rfl, hs7⟩
  have hra7 : Row w7 w.heap.size 24 (valCs a) := HRa.out.keep hs7 trivial
  have hrb7 : Row w7 (w.heap.size + 1) 24 (valCs b) := HRb.out.keep hs7 trivial
  have hrc7 : Row w7 (w.heap.size + 2) 24 (valCs c) := HRc.out.keep hs7 trivial
  have HS7 := Lib.hid (HS6.out.trans hs7)
  clear HRa HRb HRc
  obtain ⟨a70, a71, a72, -, -, -⟩ := val_cells hra7
  have la7 := hra7.lt
  have HRa := Lib.hid hra7
  obtain ⟨b70, b71, b72, -, -, -⟩ := val_cells hrb7
  have lb7 := hrb7.lt
  have HRb := Lib.hid hrb7
  obtain ⟨c70, c71, c72, -, -, -⟩ := val_cells hrc7
  have lc7 := hrc7.lt
  have HRc := Lib.hid hrc7
  clear hra7 hrb7 hrc7 hs7
  clear a60 a61 a62 b60 b61 b62 c60 c61 c62
  go_wp2_with (go_at_call 21; refine stopAt ?_)
  unfold Hid
  refine (q4 _).mono ?_
  rintro e w8 ⟨rfl, hs8⟩
  have hra8 : Row w8 w.heap.size 24 (valCs a) := HRa.out.keep hs8 trivial
  have hrb8 : Row w8 (w.heap.size + 1) 24 (valCs b) := HRb.out.keep hs8 trivial
  have hrc8 : Row w8 (w.heap.size + 2) 24 (valCs c) := HRc.out.keep hs8 trivial
  have HS8 := Lib.hid (HS7.out.trans hs8)
  clear HRa HRb HRc
  obtain ⟨a80, a81, a82, -, -, -⟩ := val_cells hra8
  have la8 := hra8.lt
  have HRa := Lib.hid hra8
  obtain ⟨b80, b81, b82, -, -, -⟩ := val_cells hrb8
  have lb8 := hrb8.lt
  have HRb := Lib.hid hrb8
  obtain ⟨c80, c81, c82, -, -, -⟩ := val_cells hrc8
  have lc8 := hrc8.lt
  have HRc := Lib.hid hrc8
  clear hra8 hrb8 hrc8 hs8
  clear a70 a71 a72 b70 b71 b72 c70 c71 c72
  go_wp2_with (go_at_call 21; refine stopAt ?_)
  unfold Hid
  refine (q5 _).mono ?_
  rintro e w9 ⟨rfl, hs9⟩
  have hra9 : Row w9 w.heap.size 24 (valCs a) := HRa.out.keep hs9 trivial
  have hrb9 : Row w9 (w.heap.size + 1) 24 (valCs b) := HRb.out.keep hs9 trivial
  have hrc9 : Row w9 (w.heap.size + 2) 24 (valCs c) := HRc.out.keep hs9 trivial
  have HS9 := Lib.hid (HS8.out.trans hs9)
  clear HRa HRb HRc
  obtain ⟨a90, a91, a92, -, -, -⟩ := val_cells hra9
  have la9 := hra9.lt
  have HRa := Lib.hid hra9
  obtain ⟨b90, b91, b92, -, -, -⟩ := val_cells hrb9
  have lb9 := hrb9.lt
  have HRb := Lib.hid hrb9
  obtain ⟨c90, c91, c92, -, -, -⟩ := val_cells hrc9
  have lc9 := hrc9.lt
  have HRc := Lib.hid hrc9
  clear hra9 hrb9 hrc9 hs9
  clear a80 a81 a82 b80 b81 b82 c80 c81 c82
  go_wp2
  go_ret
  exact ⟨by show Ending.returned (.bool !decide (0 < Z)) = _; rw [decide_eq_false (by omega)]; rfl, HS9.out⟩
theorem order_walk (a b c : Val) (w : World) (hE : EnvT w) : Calls Tryd.prog 5 #[valV a, valV b, valV c] w (BoolP true w) := by
  cases ha : mayV a
  · exact order_no0 a b c w hE ha
  cases hb : mayV b
  · exact order_no10 a b c w hE ha hb
  cases hc : mayV c
  · exact order_no110 a b c w hE ha hb hc
  by_cases hx : cmpV a b ≤ 0
  · by_cases hy : cmpV b c ≤ 0
    · exact order_z a b c w hE ha hb hc hx hy
    · exact order_y a b c w hE ha hb hc hx hy
  · exact order_x a b c w hE ha hb hc hx
end Go.Proofs.YtpbekhcogpkbpaaDoor
