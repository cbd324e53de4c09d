/-
  The walk of ValueKeys.
-/
import Derived.Test.YtpbekhcogpkbpaaDoorVaBk
set_option linter.unusedSimpArgs false
set_option linter.unusedVariables false
namespace Go.Proofs.YtpbekhcogpkbpaaDoor
open Go.RowKit

theorem ext_takeV (s : List UInt8) (n : Nat) : (str s).extract 0 n = str (s.take n) := by
  apply ByteArray.ext
  rw [ByteArray.data_extract]
  apply Array.toList_inj.1
  simp [str]
/-- What two keys are held to, by how the values stand. -/
theorem keys_facts {a b : Val} (ha : a.May) (hb : b.May) (hna : I64 a.n) (hnb : I64 b.n) :
    (cmpV a b = 0 ∧ a = b) ∨ (cmpV a b = -1 ∧ a ≠ b ∧ ltB (keyL a) (keyL b) = true ∧ keyL a ≠ keyL b ∧ (keyL a).take (min (keyL a).length (keyL b).length) ≠ (keyL b).take (min (keyL a).length (keyL b).length)) ∨
    (cmpV a b = 1 ∧ a ≠ b ∧ ltB (keyL a) (keyL b) = false ∧ keyL a ≠ keyL b ∧ (keyL a).take (min (keyL a).length (keyL b).length) ≠ (keyL b).take (min (keyL a).length (keyL b).length)) := by
  have hbd := cmpV_bd a b
  rcases Int.lt_trichotomy (cmpV a b) 0 with h | h | h
  · have h1 := keyL_ltP ha hb hna hnb h
    exact .inr (.inl ⟨by omega, fun e => by rw [(cmpV_zero a b).2 e] at h; omega, h1.lt, fun e => h1.prefix_ne _ (Nat.le_refl _) (by rw [e]), h1.prefix_ne _ (Nat.le_refl _)⟩)
  · exact .inl ⟨h, (cmpV_zero a b).1 h⟩
  · have h2 : cmpV b a < 0 := by rw [cmpV_swap a b]; omega
    have h1 := keyL_ltP hb ha hnb hna h2
    refine .inr (.inr ⟨by omega, fun e => by rw [(cmpV_zero a b).2 e] at h; omega, ?_, fun e => h1.prefix_ne _ (Nat.le_refl _) (by rw [e]), fun e => h1.prefix_ne _ (by omega) e.symm⟩)
    cases hlt : ltB (keyL a) (keyL b) with
    | false => rfl
    | true => exact absurd (h1.lt) (by rw [ltB_asymm hlt]; simp)
set_option maxRecDepth 100000 in
set_option maxHeartbeats 4000000 in
theorem keys_no0 (a b : Val) (w : World) (hE : EnvT w) (ha : mayV a = false) : Calls Tryd.prog 4 #[valV a, valV b] w (BoolP true w) := by
  have HE := Lib.hid hE
  clear hE
  have ra0 := (Row.new w 24 (valCs a)).keep ((Same.refl (fun _ => True) _).alloc (.cells #[.int .i64 b.kind, .int .i64 b.n, .string (str b.s)] 24)) trivial
  have rb0 := Row.new (w.alloc (.cells #[.int .i64 a.kind, .int .i64 a.n, .string (str a.s)] 24)) 24 (valCs b)
  rw [size_alloc1] at rb0
  have HRa : Hid (Row ((w.alloc (.cells #[.int .i64 a.kind, .int .i64 a.n, .string (str a.s)] 24)).alloc (.cells #[.int .i64 b.kind, .int .i64 b.n, .string (str b.s)] 24)) w.heap.size 24 (valCs a)) := Lib.hid ra0
  have HRb : Hid (Row ((w.alloc (.cells #[.int .i64 a.kind, .int .i64 a.n, .string (str a.s)] 24)).alloc (.cells #[.int .i64 b.kind, .int .i64 b.n, .string (str b.s)] 24)) (w.heap.size + 1) 24 (valCs b)) := Lib.hid rb0
  clear ra0 rb0
  unfold BoolP
  have hma := fun W => exMay_any a W
  rw [ha] at hma
  unfold BoolP at hma
  go_enter Tryd.func4, Tryd.ntmps4
  go_wp2_with (go_at_call 8; refine stopAt ?_)
  unfold Hid
  refine (begun_any _ (HE.out.keepAll ((Same.refl (fun _ => True) w).alloc _ |>.alloc _))).mono ?_
  rintro e w1 ⟨rfl, hs1⟩
  have hra1 : Row w1 w.heap.size 24 (valCs a) := HRa.out.keep hs1 trivial
  have hrb1 : Row w1 (w.heap.size + 1) 24 (valCs b) := HRb.out.keep hs1 trivial
  have HS1 := Lib.hid (((Same.refl (fun _ => True) w).alloc (.cells #[.int .i64 a.kind, .int .i64 a.n, .string (str a.s)] 24) |>.alloc (.cells #[.int .i64 b.kind, .int .i64 b.n, .string (str b.s)] 24)).trans hs1)
  clear HRa HRb
  obtain ⟨a10, a11, a12, -, -, -⟩ := val_cells hra1
  have la1 := hra1.lt
  have HRa := Lib.hid hra1
  obtain ⟨b10, b11, b12, -, -, -⟩ := val_cells hrb1
  have lb1 := hrb1.lt
  have HRb := Lib.hid hrb1
  clear hra1 hrb1 hs1
  go_wp2_with (go_at_call 16; refine stopAt ?_)
  unfold Hid
  refine (hma _).mono ?_
  rintro e w2 ⟨rfl, hs2⟩
  have hra2 : Row w2 w.heap.size 24 (valCs a) := HRa.out.keep hs2 trivial
  have hrb2 : Row w2 (w.heap.size + 1) 24 (valCs b) := HRb.out.keep hs2 trivial
  have HS2 := Lib.hid (HS1.out.trans hs2)
  clear HRa HRb
  obtain ⟨a20, a21, a22, -, -, -⟩ := val_cells hra2
  have la2 := hra2.lt
  have HRa := Lib.hid hra2
  obtain ⟨b20, b21, b22, -, -, -⟩ := val_cells hrb2
  have lb2 := hrb2.lt
  have HRb := Lib.hid hrb2
  clear hra2 hrb2 hs2
  clear a10 a11 a12 b10 b11 b12
  go_wp2
  go_ret
  exact ⟨rfl, HS2.out⟩
set_option maxRecDepth 100000 in
set_option maxHeartbeats 4000000 in
theorem keys_no10 (a b : Val) (w : World) (hE : EnvT w) (ha : mayV a = true) (hb : mayV b = false) : Calls Tryd.prog 4 #[valV a, valV b] w (BoolP true w) := by
  have HE := Lib.hid hE
  clear hE
  have ra0 := (Row.new w 24 (valCs a)).keep ((Same.refl (fun _ => True) _).alloc (.cells #[.int .i64 b.kind, .int .i64 b.n, .string (str b.s)] 24)) trivial
  have rb0 := Row.new (w.alloc (.cells #[.int .i64 a.kind, .int .i64 a.n, .string (str a.s)] 24)) 24 (valCs b)
  rw [size_alloc1] at rb0
  have HRa : Hid (Row ((w.alloc (.cells #[.int .i64 a.kind, .int .i64 a.n, .string (str a.s)] 24)).alloc (.cells #[.int .i64 b.kind, .int .i64 b.n, .string (str b.s)] 24)) w.heap.size 24 (valCs a)) := Lib.hid ra0
  have HRb : Hid (Row ((w.alloc (.cells #[.int .i64 a.kind, .int .i64 a.n, .string (str a.s)] 24)).alloc (.cells #[.int .i64 b.kind, .int .i64 b.n, .string (str b.s)] 24)) (w.heap.size + 1) 24 (valCs b)) := Lib.hid rb0
  clear ra0 rb0
  unfold BoolP
  have hma := fun W => exMay_any a W
  rw [ha] at hma
  unfold BoolP at hma
  have hmb := fun W => exMay_any b W
  rw [hb] at hmb
  unfold BoolP at hmb
  go_enter Tryd.func4, Tryd.ntmps4
  go_wp2_with (go_at_call 8; refine stopAt ?_)
  unfold Hid
  refine (begun_any _ (HE.out.keepAll ((Same.refl (fun _ => True) w).alloc _ |>.alloc _))).mono ?_
  rintro e w1 ⟨rfl, hs1⟩
  have hra1 : Row w1 w.heap.size 24 (valCs a) := HRa.out.keep hs1 trivial
  have hrb1 : Row w1 (w.heap.size + 1) 24 (valCs b) := HRb.out.keep hs1 trivial
  have HS1 := Lib.hid (((Same.refl (fun _ => True) w).alloc (.cells #[.int .i64 a.kind, .int .i64 a.n, .string (str a.s)] 24) |>.alloc (.cells #[.int .i64 b.kind, .int .i64 b.n, .string (str b.s)] 24)).trans hs1)
  clear HRa HRb
  obtain ⟨a10, a11, a12, -, -, -⟩ := val_cells hra1
  have la1 := hra1.lt
  have HRa := Lib.hid hra1
  obtain ⟨b10, b11, b12, -, -, -⟩ := val_cells hrb1
  have lb1 := hrb1.lt
  have HRb := Lib.hid hrb1
  clear hra1 hrb1 hs1
  go_wp2_with (go_at_call 16; refine stopAt ?_)
  unfold Hid
  refine (hma _).mono ?_
  rintro e w2 ⟨rfl, hs2⟩
  have hra2 : Row w2 w.heap.size 24 (valCs a) := HRa.out.keep hs2 trivial
  have hrb2 : Row w2 (w.heap.size + 1) 24 (valCs b) := HRb.out.keep hs2 trivial
  have HS2 := Lib.hid (HS1.out.trans hs2)
  clear HRa HRb
  obtain ⟨a20, a21, a22, -, -, -⟩ := val_cells hra2
  have la2 := hra2.lt
  have HRa := Lib.hid hra2
  obtain ⟨b20, b21, b22, -, -, -⟩ := val_cells hrb2
  have lb2 := hrb2.lt
  have HRb := Lib.hid hrb2
  clear hra2 hrb2 hs2
  clear a10 a11 a12 b10 b11 b12
  go_wp2_with (go_at_call 16; refine stopAt ?_)
  unfold Hid
  refine (hmb _).mono ?_
  rintro e w3 ⟨rfl, hs3⟩
  have hra3 : Row w3 w.heap.size 24 (valCs a) := HRa.out.keep hs3 trivial
  have hrb3 : Row w3 (w.heap.size + 1) 24 (valCs b) := HRb.out.keep hs3 trivial
  have HS3 := Lib.hid (HS2.out.trans hs3)
  clear HRa HRb
  obtain ⟨a30, a31, a32, -, -, -⟩ := val_cells hra3
  have la3 := hra3.lt
  have HRa := Lib.hid hra3
  obtain ⟨b30, b31, b32, -, -, -⟩ := val_cells hrb3
  have lb3 := hrb3.lt
  have HRb := Lib.hid hrb3
  clear hra3 hrb3 hs3
  clear a20 a21 a22 b20 b21 b22
  go_wp2
  go_ret
  exact ⟨rfl, HS3.out⟩
set_option maxRecDepth 100000 in
set_option maxHeartbeats 4000000 in
theorem keys_lt (a b : Val) (w : World) (hE : EnvT w) (hna : I64 a.n) (hnb : I64 b.n) (ha : mayV a = true) (hb : mayV b = true) (h0 : cmpV a b = -1) (h1 : a ≠ b) (h2 : ltB (keyL a) (keyL b) = true) (h3 : keyL a ≠ keyL b) (h4 : (keyL a).take (min (keyL a).length (keyL b).length) ≠ (keyL b).take (min (keyL a).length (keyL b).length)) : Calls Tryd.prog 4 #[valV a, valV b] w (BoolP true w) := by
  have HE := Lib.hid hE
  clear hE
  have ra0 := (Row.new w 24 (valCs a)).keep ((Same.refl (fun _ => True) _).alloc (.cells #[.int .i64 b.kind, .int .i64 b.n, .string (str b.s)] 24)) trivial
  have rb0 := Row.new (w.alloc (.cells #[.int .i64 a.kind, .int .i64 a.n, .string (str a.s)] 24)) 24 (valCs b)
  rw [size_alloc1] at rb0
  have HRa : Hid (Row ((w.alloc (.cells #[.int .i64 a.kind, .int .i64 a.n, .string (str a.s)] 24)).alloc (.cells #[.int .i64 b.kind, .int .i64 b.n, .string (str b.s)] 24)) w.heap.size 24 (valCs a)) := Lib.hid ra0
  have HRb : Hid (Row ((w.alloc (.cells #[.int .i64 a.kind, .int .i64 a.n, .string (str a.s)] 24)).alloc (.cells #[.int .i64 b.kind, .int .i64 b.n, .string (str b.s)] 24)) (w.heap.size + 1) 24 (valCs b)) := Lib.hid rb0
  clear ra0 rb0
  unfold BoolP
  have hma := fun W => exMay_any a W
  rw [ha] at hma
  unfold BoolP at hma
  have hmb := fun W => exMay_any b W
  rw [hb] at hmb
  unfold BoolP at hmb
  have hka := fun W => key_any a (.slice none 0 0) [] (fun _ => True) W (By.none_ _ _ _ _ (by simp [maxLen])) (by simp) hna
  have hkb := fun W => key_any b (.slice none 0 0) [] (fun _ => True) W (By.none_ _ _ _ _ (by simp [maxLen])) (by simp) hnb
  simp only [List.nil_append] at hka hkb
  unfold OwnPost at hka hkb
  have hcm := fun W => exCompare_any a b W
  have hla := keyL_len ((mayV_iff a).1 ha)
  have hlb := keyL_len ((mayV_iff b).1 hb)
  rw [h0] at hcm
  obtain ⟨Ka, hKa⟩ : ∃ K, K = keyL a := ⟨_, rfl⟩
  obtain ⟨Kb, hKb⟩ : ∃ K, K = keyL b := ⟨_, rfl⟩
  rw [← hKa] at hka hla h2 h3 h4
  rw [← hKb] at hkb hlb h2 h3 h4
  clear hKa hKb
  have H1 := Lib.hid h1
  have H2 := Lib.hid h2
  have H3 := Lib.hid h3
  have H4 := Lib.hid h4
  have HLA := Lib.hid hla
  have HLB := Lib.hid hlb
  clear h0 h1 h2 h3 h4 hla hlb
  go_enter Tryd.func4, Tryd.ntmps4
  go_wp2_with (go_at_call 8; refine stopAt ?_)
  unfold Hid
  refine (begun_any _ (HE.out.keepAll ((Same.refl (fun _ => True) w).alloc _ |>.alloc _))).mono ?_
  rintro e w1 ⟨rfl, hs1⟩
  have hra1 : Row w1 w.heap.size 24 (valCs a) := HRa.out.keep hs1 trivial
  have hrb1 : Row w1 (w.heap.size + 1) 24 (valCs b) := HRb.out.keep hs1 trivial
  have HS1 := Lib.hid (((Same.refl (fun _ => True) w).alloc (.cells #[.int .i64 a.kind, .int .i64 a.n, .string (str a.s)] 24) |>.alloc (.cells #[.int .i64 b.kind, .int .i64 b.n, .string (str b.s)] 24)).trans hs1)
  clear HRa HRb
  obtain ⟨a10, a11, a12, -, -, -⟩ := val_cells hra1
  have la1 := hra1.lt
  have HRa := Lib.hid hra1
  obtain ⟨b10, b11, b12, -, -, -⟩ := val_cells hrb1
  have lb1 := hrb1.lt
  have HRb := Lib.hid hrb1
  clear hra1 hrb1 hs1
  go_wp2_with (go_at_call 16; refine stopAt ?_)
  unfold Hid
  refine (hma _).mono ?_
  rintro e w2 ⟨rfl, hs2⟩
  have hra2 : Row w2 w.heap.size 24 (valCs a) := HRa.out.keep hs2 trivial
  have hrb2 : Row w2 (w.heap.size + 1) 24 (valCs b) := HRb.out.keep hs2 trivial
  have HS2 := Lib.hid (HS1.out.trans hs2)
  clear HRa HRb
  obtain ⟨a20, a21, a22, -, -, -⟩ := val_cells hra2
  have la2 := hra2.lt
  have HRa := Lib.hid hra2
  obtain ⟨b20, b21, b22, -, -, -⟩ := val_cells hrb2
  have lb2 := hrb2.lt
  have HRb := Lib.hid hrb2
  clear hra2 hrb2 hs2
  clear a10 a11 a12 b10 b11 b12
  go_wp2_with (go_at_call 16; refine stopAt ?_)
  unfold Hid
  refine (hmb _).mono ?_
  rintro e w3 ⟨rfl, hs3⟩
  have hra3 : Row w3 w.heap.size 24 (valCs a) := HRa.out.keep hs3 trivial
  have hrb3 : Row w3 (w.heap.size + 1) 24 (valCs b) := HRb.out.keep hs3 trivial
  have HS3 := Lib.hid (HS2.out.trans hs3)
  clear HRa HRb
  obtain ⟨a30, a31, a32, -, -, -⟩ := val_cells hra3
  have la3 := hra3.lt
  have HRa := Lib.hid hra3
  obtain ⟨b30, b31, b32, -, -, -⟩ := val_cells hrb3
  have lb3 := hrb3.lt
  have HRb := Lib.hid hrb3
  clear hra3 hrb3 hs3
  clear a20 a21 a22 b20 b21 b22
  go_upto_region 5 with (fail)
  refine wp_region_tail_d (L := [.eq (.agg #[.int .i64 a.kind, .int .i64 a.n, .string (str a.s)]), .of ⟨fun v w => OwnB w w3.heap.size v Ka, fun _ _ _ h k => h.keepAll k⟩, .eq (.string (str Ka)), .eq (.agg #[.int .i64 b.kind, .int .i64 b.n, .string (str b.s)]), .of ⟨fun v w => OwnB w w3.heap.size v Kb, fun _ _ _ h k => h.keepAll k⟩, .eq (.string (str Kb))]) 6 5 (by omega) (by kernel_rfl) (by kernel_rfl) rfl rfl rfl rfl rfl rfl ?_ ?_ ?_
  · refine ⟨?_, ?_, ?_, ?_, ?_, ?_, trivial⟩
    · intro ac wc hs hd hz hf hw K hK
      have e0 : ac.eval (.tmp 2) = (.pointer (some ⟨w.heap.size, 0, none⟩)) := hf 2 rfl
      have m0 : wc.cell? ⟨w.heap.size, 0, none⟩ = some (.int .i64 a.kind) := hs.cell (p := ⟨w.heap.size, 0, none⟩) trivial a30
      have m1 : wc.cell? ⟨w.heap.size, 1, none⟩ = some (.int .i64 a.n) := hs.cell (p := ⟨w.heap.size, 1, none⟩) trivial a31
      have m2 : wc.cell? ⟨w.heap.size, 2, none⟩ = some (.string (str a.s)) := hs.cell (p := ⟨w.heap.size, 2, none⟩) trivial a32
      clear hd hz hf hw
      simp only [Region.wanted, if_true, Oper.wp, execOp, resolve, List.map_toArray, List.map_cons, List.map_nil, Option.map_some, Option.map_none, e0]
      go_simp
      exact hK _ _ rfl (Same.refl _ _)
    · intro ac wc hs hd hz hf hw K hK
      have e0 : ac.eval (.tmp 19) = (.agg #[.int .i64 a.kind, .int .i64 a.n, .string (str a.s)]) := hw 0 rfl
      clear hd hz hf hw
      simp only [Region.wanted, if_true, Oper.wp, execOp, resolve, List.map_toArray, List.map_cons, List.map_nil, Option.map_some, Option.map_none, e0]
      go_simp
      refine (hka _).mono ?_
      rintro e wd ⟨u, rfl, hu, hsu⟩
      exact hK _ _ (hu.lower hs.size) hsu
    · intro ac wc hs hd hz hf hw K hK
      have p0 : (⟨fun v w => OwnB w w3.heap.size v Ka, fun _ _ _ h k => h.keepAll k⟩ : SP).p (ac.eval (.tmp 20)) wc := hw 1 rfl
      obtain ⟨u0, e0⟩ : ∃ u, ac.eval (.tmp 20) = u := ⟨_, rfl⟩
      rw [e0] at p0
      obtain ⟨xA, xc, rfl, -, -⟩ := OwnB.form p0
      have hcv := conv_by (OwnB.by_ p0)
      clear hd hz hf hw
      simp only [Region.wanted, if_true, Oper.wp, execOp, resolve, List.map_toArray, List.map_cons, List.map_nil, Option.map_some, Option.map_none, e0]
      go_simp
      exact hK _ _ rfl (Same.refl _ _)
    · intro ac wc hs hd hz hf hw K hK
      have e0 : ac.eval (.tmp 3) = (.pointer (some ⟨w.heap.size + 1, 0, none⟩)) := hf 3 rfl
      have m0 : wc.cell? ⟨w.heap.size + 1, 0, none⟩ = some (.int .i64 b.kind) := hs.cell (p := ⟨w.heap.size + 1, 0, none⟩) trivial b30
      have m1 : wc.cell? ⟨w.heap.size + 1, 1, none⟩ = some (.int .i64 b.n) := hs.cell (p := ⟨w.heap.size + 1, 1, none⟩) trivial b31
      have m2 : wc.cell? ⟨w.heap.size + 1, 2, none⟩ = some (.string (str b.s)) := hs.cell (p := ⟨w.heap.size + 1, 2, none⟩) trivial b32
      clear hd hz hf hw
      simp only [Region.wanted, if_true, Oper.wp, execOp, resolve, List.map_toArray, List.map_cons, List.map_nil, Option.map_some, Option.map_none, e0]
      go_simp
      exact hK _ _ rfl (Same.refl _ _)
    · intro ac wc hs hd hz hf hw K hK
      have e0 : ac.eval (.tmp 22) = (.agg #[.int .i64 b.kind, .int .i64 b.n, .string (str b.s)]) := hw 3 rfl
      clear hd hz hf hw
      simp only [Region.wanted, if_true, Oper.wp, execOp, resolve, List.map_toArray, List.map_cons, List.map_nil, Option.map_some, Option.map_none, e0]
      go_simp
      refine (hkb _).mono ?_
      rintro e wd ⟨u, rfl, hu, hsu⟩
      exact hK _ _ (hu.lower hs.size) hsu
    · intro ac wc hs hd hz hf hw K hK
      have p0 : (⟨fun v w => OwnB w w3.heap.size v Kb, fun _ _ _ h k => h.keepAll k⟩ : SP).p (ac.eval (.tmp 23)) wc := hw 4 rfl
      obtain ⟨u0, e0⟩ : ∃ u, ac.eval (.tmp 23) = u := ⟨_, rfl⟩
      rw [e0] at p0
      obtain ⟨yA, xc, rfl, -, -⟩ := OwnB.form p0
      have hcv := conv_by (OwnB.by_ p0)
      clear hd hz hf hw
      simp only [Region.wanted, if_true, Oper.wp, execOp, resolve, List.map_toArray, List.map_cons, List.map_nil, Option.map_some, Option.map_none, e0]
      go_simp
      exact hK _ _ rfl (Same.refl _ _)
  · intro vs wR hvl hvp hsR
    rcases vs with _ | ⟨z0, _ | ⟨z1, _ | ⟨z2, _ | ⟨z3, _ | ⟨z4, _ | ⟨z5, _ | ⟨zz, zr⟩⟩⟩⟩⟩⟩⟩
    rotate_right 1
    · simp at hvl
    · simp at hvl
    · simp at hvl
    · simp at hvl
    · simp at hvl
    · simp at hvl
    · simp at hvl
    · obtain rfl : z0 = (.agg #[.int .i64 a.kind, .int .i64 a.n, .string (str a.s)]) := hvp 0 (by omega)
      have hx : (⟨fun v w => OwnB w w3.heap.size v Ka, fun _ _ _ h k => h.keepAll k⟩ : SP).p z1 wR := hvp 1 (by omega)
      obtain rfl : z2 = (.string (str Ka)) := hvp 2 (by omega)
      obtain rfl : z3 = (.agg #[.int .i64 b.kind, .int .i64 b.n, .string (str b.s)]) := hvp 3 (by omega)
      have hy : (⟨fun v w => OwnB w w3.heap.size v Kb, fun _ _ _ h k => h.keepAll k⟩ : SP).p z4 wR := hvp 4 (by omega)
      obtain rfl : z5 = (.string (str Kb)) := hvp 5 (by omega)
      clear hvl hvp
      simp only [putAll, Act.put, List.setIfInBounds_toArray, List.set_cons_succ, List.set_cons_zero, List.take_succ_cons, List.take_zero, List.drop_succ_cons, List.drop_zero, List.eraseIdx_cons_succ, List.eraseIdx_cons_zero]
      have HSR := Lib.hid (HS3.out.trans hsR)
      obtain ⟨yA, yc, rfl, -, -⟩ := OwnB.form hy
      have hcv := conv_by (OwnB.by_ hy)
      clear hx hy
      have hraR : Row wR w.heap.size 24 (valCs a) := HRa.out.keep hsR trivial
      have hrbR : Row wR (w.heap.size + 1) 24 (valCs b) := HRb.out.keep hsR trivial
      clear HRa HRb a30 a31 a32 b30 b31 b32
      obtain ⟨aR0, aR1, aR2, -, -, -⟩ := val_cells hraR
      obtain ⟨bR0, bR1, bR2, -, -, -⟩ := val_cells hrbR
      have laR := hraR.lt
      have lbR := hrbR.lt
      have HRa := Lib.hid hraR
      have HRb := Lib.hid hrbR
      clear hraR hrbR hsR
      go_wp2_with (go_at_call 21; refine stopAt ?_)
      unfold Hid
      clear hcv
      refine (hcm _).mono ?_
      rintro e w4 ⟨rfl, hs4⟩
      have hra4 : Row w4 w.heap.size 24 (valCs a) := HRa.out.keep hs4 trivial
      have hrb4 : Row w4 (w.heap.size + 1) 24 (valCs b) := HRb.out.keep hs4 trivial
      have HS4 := Lib.hid (HSR.out.trans hs4)
      clear HRa HRb
      obtain ⟨a40, a41, a42, -, -, -⟩ := val_cells hra4
      have la4 := hra4.lt
      have HRa := Lib.hid hra4
      obtain ⟨b40, b41, b42, -, -, -⟩ := val_cells hrb4
      have lb4 := hrb4.lt
      have HRb := Lib.hid hrb4
      clear hra4 hrb4 hs4
      clear aR0 aR1 aR2 bR0 bR1 bR2
      clear laR lbR
      have q1 : Op.bytesLess Ka Kb = true := H2.out
      have q0 : (Ka == Kb) = false := by simpa using H3.out
      have q9 : ¬ Ka = Kb := H3.out
      have q2 : (str Ka == str Kb) = false := by rw [str_beq]; simpa using H3.out
      have q3 := fun W => eqV a b W
      rw [decide_eq_false H1.out] at q3
      obtain ⟨MN, hMN⟩ : ∃ m : Nat, m = min Ka.length Kb.length := ⟨_, rfl⟩
      have q5 : (min ((str Ka).size : Int) ((str Kb).size : Int)) = (MN : Int) := by rw [str_size, str_size]; omega
      have q6 : (MN : Int) ≤ ((str Ka).size : Int) := by rw [str_size]; omega
      have q7 : (MN : Int) ≤ ((str Kb).size : Int) := by rw [str_size]; omega
      have q4 : (((str Ka).extract 0 MN).toList == ((str Kb).extract 0 MN).toList) = false := by rw [ext_takeV, ext_takeV, str_toList, str_toList, hMN]; simpa using H4.out
      rw [q5]
      clear hMN q5
      go_upto_region 8 with (fail)
      go_quiet (fail)
      go_wp2
      go_ret
      exact ⟨rfl, HS4.out.drewN _⟩
  · intro vs wR hvl hvp hsR
    rcases vs with _ | ⟨z0, _ | ⟨z1, _ | ⟨z2, _ | ⟨z3, _ | ⟨z4, _ | ⟨zz, zr⟩⟩⟩⟩⟩⟩
    rotate_right 1
    · simp at hvl
    · simp at hvl
    · simp at hvl
    · simp at hvl
    · simp at hvl
    · simp at hvl
    · obtain rfl : z0 = (.agg #[.int .i64 a.kind, .int .i64 a.n, .string (str a.s)]) := hvp 0 (by omega)
      have hx : (⟨fun v w => OwnB w w3.heap.size v Ka, fun _ _ _ h k => h.keepAll k⟩ : SP).p z1 wR := hvp 1 (by omega)
      obtain rfl : z2 = (.string (str Ka)) := hvp 2 (by omega)
      obtain rfl : z3 = (.agg #[.int .i64 b.kind, .int .i64 b.n, .string (str b.s)]) := hvp 3 (by omega)
      have hy : (⟨fun v w => OwnB w w3.heap.size v Kb, fun _ _ _ h k => h.keepAll k⟩ : SP).p z4 wR := hvp 4 (by omega)
      clear hvl hvp
      simp only [putAll, Act.put, List.setIfInBounds_toArray, List.set_cons_succ, List.set_cons_zero, List.take_succ_cons, List.take_zero, List.drop_succ_cons, List.drop_zero, List.eraseIdx_cons_succ, List.eraseIdx_cons_zero]
      have HSR := Lib.hid (HS3.out.trans hsR)
      obtain ⟨yA, yc, rfl, -, -⟩ := OwnB.form hy
      have hcv := conv_by (OwnB.by_ hy)
      clear hx hy
      have hraR : Row wR w.heap.size 24 (valCs a) := HRa.out.keep hsR trivial
      have hrbR : Row wR (w.heap.size + 1) 24 (valCs b) := HRb.out.keep hsR trivial
      clear HRa HRb a30 a31 a32 b30 b31 b32
      obtain ⟨aR0, aR1, aR2, -, -, -⟩ := val_cells hraR
      obtain ⟨bR0, bR1, bR2, -, -, -⟩ := val_cells hrbR
      have laR := hraR.lt
      have lbR := hrbR.lt
      have HRa := Lib.hid hraR
      have HRb := Lib.hid hrbR
      clear hraR hrbR hsR
      go_wp2_with (go_at_call 21; refine stopAt ?_)
      unfold Hid
      clear hcv
      refine (hcm _).mono ?_
      rintro e w4 ⟨rfl, hs4⟩
      have hra4 : Row w4 w.heap.size 24 (valCs a) := HRa.out.keep hs4 trivial
      have hrb4 : Row w4 (w.heap.size + 1) 24 (valCs b) := HRb.out.keep hs4 trivial
      have HS4 := Lib.hid (HSR.out.trans hs4)
      clear HRa HRb
      obtain ⟨a40, a41, a42, -, -, -⟩ := val_cells hra4
      have la4 := hra4.lt
      have HRa := Lib.hid hra4
      obtain ⟨b40, b41, b42, -, -, -⟩ := val_cells hrb4
      have lb4 := hrb4.lt
      have HRb := Lib.hid hrb4
      clear hra4 hrb4 hs4
      clear aR0 aR1 aR2 bR0 bR1 bR2
      clear laR lbR
      have q1 : Op.bytesLess Ka Kb = true := H2.out
      have q0 : (Ka == Kb) = false := by simpa using H3.out
      have q9 : ¬ Ka = Kb := H3.out
      have q2 : (str Ka == str Kb) = false := by rw [str_beq]; simpa using H3.out
      have q3 := fun W => eqV a b W
      rw [decide_eq_false H1.out] at q3
      obtain ⟨MN, hMN⟩ : ∃ m : Nat, m = min Ka.length Kb.length := ⟨_, rfl⟩
      have q5 : (min ((str Ka).size : Int) ((str Kb).size : Int)) = (MN : Int) := by rw [str_size, str_size]; omega
      have q6 : (MN : Int) ≤ ((str Ka).size : Int) := by rw [str_size]; omega
      have q7 : (MN : Int) ≤ ((str Kb).size : Int) := by rw [str_size]; omega
      have q4 : (((str Ka).extract 0 MN).toList == ((str Kb).extract 0 MN).toList) = false := by rw [ext_takeV, ext_takeV, str_toList, str_toList, hMN]; simpa using H4.out
      rw [q5]
      clear hMN q5
      go_upto_region 8 with (fail)
      go_quiet (fail)
      go_wp2
      go_ret
      exact ⟨rfl, HS4.out.drewN _⟩
set_option maxRecDepth 100000 in
set_option maxHeartbeats 4000000 in
theorem keys_gt (a b : Val) (w : World) (hE : EnvT w) (hna : I64 a.n) (hnb : I64 b.n) (ha : mayV a = true) (hb : mayV b = true) (h0 : cmpV a b = 1) (h1 : a ≠ b) (h2 : ltB (keyL a) (keyL b) = false) (h3 : keyL a ≠ keyL b) (h4 : (keyL a).take (min (keyL a).length (keyL b).length) ≠ (keyL b).take (min (keyL a).length (keyL b).length)) : Calls Tryd.prog 4 #[valV a, valV b] w (BoolP true w) := by
  have HE := Lib.hid hE
  clear hE
  have ra0 := (Row.new w 24 (valCs a)).keep ((Same.refl (fun _ => True) _).alloc (.cells #[.int .i64 b.kind, .int .i64 b.n, .string (str b.s)] 24)) trivial
  have rb0 := Row.new (w.alloc (.cells #[.int .i64 a.kind, .int .i64 a.n, .string (str a.s)] 24)) 24 (valCs b)
  rw [size_alloc1] at rb0
  have HRa : Hid (Row ((w.alloc (.cells #[.int .i64 a.kind, .int .i64 a.n, .string (str a.s)] 24)).alloc (.cells #[.int .i64 b.kind, .int .i64 b.n, .string (str b.s)] 24)) w.heap.size 24 (valCs a)) := Lib.hid ra0
  have HRb : Hid (Row ((w.alloc (.cells #[.int .i64 a.kind, .int .i64 a.n, .string (str a.s)] 24)).alloc (.cells #[.int .i64 b.kind, .int .i64 b.n, .string (str b.s)] 24)) (w.heap.size + 1) 24 (valCs b)) := Lib.hid rb0
  clear ra0 rb0
  unfold BoolP
  have hma := fun W => exMay_any a W
  rw [ha] at hma
  unfold BoolP at hma
  have hmb := fun W => exMay_any b W
  rw [hb] at hmb
  unfold BoolP at hmb
  have hka := fun W => key_any a (.slice none 0 0) [] (fun _ => True) W (By.none_ _ _ _ _ (by simp [maxLen])) (by simp) hna
  have hkb := fun W => key_any b (.slice none 0 0) [] (fun _ => True) W (By.none_ _ _ _ _ (by simp [maxLen])) (by simp) hnb
  simp only [List.nil_append] at hka hkb
  unfold OwnPost at hka hkb
  have hcm := fun W => exCompare_any a b W
  have hla := keyL_len ((mayV_iff a).1 ha)
  have hlb := keyL_len ((mayV_iff b).1 hb)
  rw [h0] at hcm
  obtain ⟨Ka, hKa⟩ : ∃ K, K = keyL a := ⟨_, rfl⟩
  obtain ⟨Kb, hKb⟩ : ∃ K, K = keyL b := ⟨_, rfl⟩
  rw [← hKa] at hka hla h2 h3 h4
  rw [← hKb] at hkb hlb h2 h3 h4
  clear hKa hKb
  have H1 := Lib.hid h1
  have H2 := Lib.hid h2
  have H3 := Lib.hid h3
  have H4 := Lib.hid h4
  have HLA := Lib.hid hla
  have HLB := Lib.hid hlb
  clear h0 h1 h2 h3 h4 hla hlb
  go_enter Tryd.func4, Tryd.ntmps4
  go_wp2_with (go_at_call 8; refine stopAt ?_)
  unfold Hid
  refine (begun_any _ (HE.out.keepAll ((Same.refl (fun _ => True) w).alloc _ |>.alloc _))).mono ?_
  rintro e w1 ⟨rfl, hs1⟩
  have hra1 : Row w1 w.heap.size 24 (valCs a) := HRa.out.keep hs1 trivial
  have hrb1 : Row w1 (w.heap.size + 1) 24 (valCs b) := HRb.out.keep hs1 trivial
  have HS1 := Lib.hid (((Same.refl (fun _ => True) w).alloc (.cells #[.int .i64 a.kind, .int .i64 a.n, .string (str a.s)] 24) |>.alloc (.cells #[.int .i64 b.kind, .int .i64 b.n, .string (str b.s)] 24)).trans hs1)
  clear HRa HRb
  obtain ⟨a10, a11, a12, -, -, -⟩ := val_cells hra1
  have la1 := hra1.lt
  have HRa := Lib.hid hra1
  obtain ⟨b10, b11, b12, -, -, -⟩ := val_cells hrb1
  have lb1 := hrb1.lt
  have HRb := Lib.hid hrb1
  clear hra1 hrb1 hs1
  go_wp2_with (go_at_call 16; refine stopAt ?_)
  unfold Hid
  refine (hma _).mono ?_
  rintro e w2 ⟨rfl, hs2⟩
  have hra2 : Row w2 w.heap.size 24 (valCs a) := HRa.out.keep hs2 trivial
  have hrb2 : Row w2 (w.heap.size + 1) 24 (valCs b) := HRb.out.keep hs2 trivial
  have HS2 := Lib.hid (HS1.out.trans hs2)
  clear HRa HRb
  obtain ⟨a20, a21, a22, -, -, -⟩ := val_cells hra2
  have la2 := hra2.lt
  have HRa := Lib.hid hra2
  obtain ⟨b20, b21, b22, -, -, -⟩ := val_cells hrb2
  have lb2 := hrb2.lt
  have HRb := Lib.hid hrb2
  clear hra2 hrb2 hs2
  clear a10 a11 a12 b10 b11 b12
  go_wp2_with (go_at_call 16; refine stopAt ?_)
  unfold Hid
  refine (hmb _).mono ?_
  rintro e w3 ⟨rfl, hs3⟩
  have hra3 : Row w3 w.heap.size 24 (valCs a) := HRa.out.keep hs3 trivial
  have hrb3 : Row w3 (w.heap.size + 1) 24 (valCs b) := HRb.out.keep hs3 trivial
  have HS3 := Lib.hid (HS2.out.trans hs3)
  clear HRa HRb
  obtain ⟨a30, a31, a32, -, -, -⟩ := val_cells hra3
  have la3 := hra3.lt
  have HRa := Lib.hid hra3
  obtain ⟨b30, b31, b32, -, -, -⟩ := val_cells hrb3
  have lb3 := hrb3.lt
  have HRb := Lib.hid hrb3
  clear hra3 hrb3 hs3
  clear a20 a21 a22 b20 b21 b22
  go_upto_region 5 with (fail)
  refine wp_region_tail_d (L := [.eq (.agg #[.int .i64 a.kind, .int .i64 a.n, .string (str a.s)]), .of ⟨fun v w => OwnB w w3.heap.size v Ka, fun _ _ _ h k => h.keepAll k⟩, .eq (.string (str Ka)), .eq (.agg #[.int .i64 b.kind, .int .i64 b.n, .string (str b.s)]), .of ⟨fun v w => OwnB w w3.heap.size v Kb, fun _ _ _ h k => h.keepAll k⟩, .eq (.string (str Kb))]) 6 5 (by omega) (by kernel_rfl) (by kernel_rfl) rfl rfl rfl rfl rfl rfl ?_ ?_ ?_
  · refine ⟨?_, ?_, ?_, ?_, ?_, ?_, trivial⟩
    · intro ac wc hs hd hz hf hw K hK
      have e0 : ac.eval (.tmp 2) = (.pointer (some ⟨w.heap.size, 0, none⟩)) := hf 2 rfl
      have m0 : wc.cell? ⟨w.heap.size, 0, none⟩ = some (.int .i64 a.kind) := hs.cell (p := ⟨w.heap.size, 0, none⟩) trivial a30
      have m1 : wc.cell? ⟨w.heap.size, 1, none⟩ = some (.int .i64 a.n) := hs.cell (p := ⟨w.heap.size, 1, none⟩) trivial a31
      have m2 : wc.cell? ⟨w.heap.size, 2, none⟩ = some (.string (str a.s)) := hs.cell (p := ⟨w.heap.size, 2, none⟩) trivial a32
      clear hd hz hf hw
      simp only [Region.wanted, if_true, Oper.wp, execOp, resolve, List.map_toArray, List.map_cons, List.map_nil, Option.map_some, Option.map_none, e0]
      go_simp
      exact hK _ _ rfl (Same.refl _ _)
    · intro ac wc hs hd hz hf hw K hK
      have e0 : ac.eval (.tmp 19) = (.agg #[.int .i64 a.kind, .int .i64 a.n, .string (str a.s)]) := hw 0 rfl
      clear hd hz hf hw
      simp only [Region.wanted, if_true, Oper.wp, execOp, resolve, List.map_toArray, List.map_cons, List.map_nil, Option.map_some, Option.map_none, e0]
      go_simp
      refine (hka _).mono ?_
      rintro e wd ⟨u, rfl, hu, hsu⟩
      exact hK _ _ (hu.lower hs.size) hsu
    · intro ac wc hs hd hz hf hw K hK
      have p0 : (⟨fun v w => OwnB w w3.heap.size v Ka, fun _ _ _ h k => h.keepAll k⟩ : SP).p (ac.eval (.tmp 20)) wc := hw 1 rfl
      obtain ⟨u0, e0⟩ : ∃ u, ac.eval (.tmp 20) = u := ⟨_, rfl⟩
      rw [e0] at p0
      obtain ⟨xA, xc, rfl, -, -⟩ := OwnB.form p0
      have hcv := conv_by (OwnB.by_ p0)
      clear hd hz hf hw
      simp only [Region.wanted, if_true, Oper.wp, execOp, resolve, List.map_toArray, List.map_cons, List.map_nil, Option.map_some, Option.map_none, e0]
      go_simp
      exact hK _ _ rfl (Same.refl _ _)
    · intro ac wc hs hd hz hf hw K hK
      have e0 : ac.eval (.tmp 3) = (.pointer (some ⟨w.heap.size + 1, 0, none⟩)) := hf 3 rfl
      have m0 : wc.cell? ⟨w.heap.size + 1, 0, none⟩ = some (.int .i64 b.kind) := hs.cell (p := ⟨w.heap.size + 1, 0, none⟩) trivial b30
      have m1 : wc.cell? ⟨w.heap.size + 1, 1, none⟩ = some (.int .i64 b.n) := hs.cell (p := ⟨w.heap.size + 1, 1, none⟩) trivial b31
      have m2 : wc.cell? ⟨w.heap.size + 1, 2, none⟩ = some (.string (str b.s)) := hs.cell (p := ⟨w.heap.size + 1, 2, none⟩) trivial b32
      clear hd hz hf hw
      simp only [Region.wanted, if_true, Oper.wp, execOp, resolve, List.map_toArray, List.map_cons, List.map_nil, Option.map_some, Option.map_none, e0]
      go_simp
      exact hK _ _ rfl (Same.refl _ _)
    · intro ac wc hs hd hz hf hw K hK
      have e0 : ac.eval (.tmp 22) = (.agg #[.int .i64 b.kind, .int .i64 b.n, .string (str b.s)]) := hw 3 rfl
      clear hd hz hf hw
      simp only [Region.wanted, if_true, Oper.wp, execOp, resolve, List.map_toArray, List.map_cons, List.map_nil, Option.map_some, Option.map_none, e0]
      go_simp
      refine (hkb _).mono ?_
      rintro e wd ⟨u, rfl, hu, hsu⟩
      exact hK _ _ (hu.lower hs.size) hsu
    · intro ac wc hs hd hz hf hw K hK
      have p0 : (⟨fun v w => OwnB w w3.heap.size v Kb, fun _ _ _ h k => h.keepAll k⟩ : SP).p (ac.eval (.tmp 23)) wc := hw 4 rfl
      obtain ⟨u0, e0⟩ : ∃ u, ac.eval (.tmp 23) = u := ⟨_, rfl⟩
      rw [e0] at p0
      obtain ⟨yA, xc, rfl, -, -⟩ := OwnB.form p0
      have hcv := conv_by (OwnB.by_ p0)
      clear hd hz hf hw
      simp only [Region.wanted, if_true, Oper.wp, execOp, resolve, List.map_toArray, List.map_cons, List.map_nil, Option.map_some, Option.map_none, e0]
      go_simp
      exact hK _ _ rfl (Same.refl _ _)
  · intro vs wR hvl hvp hsR
    rcases vs with _ | ⟨z0, _ | ⟨z1, _ | ⟨z2, _ | ⟨z3, _ | ⟨z4, _ | ⟨z5, _ | ⟨zz, zr⟩⟩⟩⟩⟩⟩⟩
    rotate_right 1
    · simp at hvl
    · simp at hvl
    · simp at hvl
    · simp at hvl
    · simp at hvl
    · simp at hvl
    · simp at hvl
    · obtain rfl : z0 = (.agg #[.int .i64 a.kind, .int .i64 a.n, .string (str a.s)]) := hvp 0 (by omega)
      have hx : (⟨fun v w => OwnB w w3.heap.size v Ka, fun _ _ _ h k => h.keepAll k⟩ : SP).p z1 wR := hvp 1 (by omega)
      obtain rfl : z2 = (.string (str Ka)) := hvp 2 (by omega)
      obtain rfl : z3 = (.agg #[.int .i64 b.kind, .int .i64 b.n, .string (str b.s)]) := hvp 3 (by omega)
      have hy : (⟨fun v w => OwnB w w3.heap.size v Kb, fun _ _ _ h k => h.keepAll k⟩ : SP).p z4 wR := hvp 4 (by omega)
      obtain rfl : z5 = (.string (str Kb)) := hvp 5 (by omega)
      clear hvl hvp
      simp only [putAll, Act.put, List.setIfInBounds_toArray, List.set_cons_succ, List.set_cons_zero, List.take_succ_cons, List.take_zero, List.drop_succ_cons, List.drop_zero, List.eraseIdx_cons_succ, List.eraseIdx_cons_zero]
      have HSR := Lib.hid (HS3.out.trans hsR)
      obtain ⟨yA, yc, rfl, -, -⟩ := OwnB.form hy
      have hcv := conv_by (OwnB.by_ hy)
      clear hx hy
      have hraR : Row wR w.heap.size 24 (valCs a) := HRa.out.keep hsR trivial
      have hrbR : Row wR (w.heap.size + 1) 24 (valCs b) := HRb.out.keep hsR trivial
      clear HRa HRb a30 a31 a32 b30 b31 b32
      obtain ⟨aR0, aR1, aR2, -, -, -⟩ := val_cells hraR
      obtain ⟨bR0, bR1, bR2, -, -, -⟩ := val_cells hrbR
      have laR := hraR.lt
      have lbR := hrbR.lt
      have HRa := Lib.hid hraR
      have HRb := Lib.hid hrbR
      clear hraR hrbR hsR
      go_wp2_with (go_at_call 21; refine stopAt ?_)
      unfold Hid
      clear hcv
      refine (hcm _).mono ?_
      rintro e w4 ⟨rfl, hs4⟩
      have hra4 : Row w4 w.heap.size 24 (valCs a) := HRa.out.keep hs4 trivial
      have hrb4 : Row w4 (w.heap.size + 1) 24 (valCs b) := HRb.out.keep hs4 trivial
      have HS4 := Lib.hid (HSR.out.trans hs4)
      clear HRa HRb
      obtain ⟨a40, a41, a42, -, -, -⟩ := val_cells hra4
      have la4 := hra4.lt
      have HRa := Lib.hid hra4
      obtain ⟨b40, b41, b42, -, -, -⟩ := val_cells hrb4
      have lb4 := hrb4.lt
      have HRb := Lib.hid hrb4
      clear hra4 hrb4 hs4
      clear aR0 aR1 aR2 bR0 bR1 bR2
      clear laR lbR
      have q1 : Op.bytesLess Ka Kb = false := H2.out
      have q0 : (Ka == Kb) = false := by simpa using H3.out
      have q9 : ¬ Ka = Kb := H3.out
      have q2 : (str Ka == str Kb) = false := by rw [str_beq]; simpa using H3.out
      have q3 := fun W => eqV a b W
      rw [decide_eq_false H1.out] at q3
      obtain ⟨MN, hMN⟩ : ∃ m : Nat, m = min Ka.length Kb.length := ⟨_, rfl⟩
      have q5 : (min ((str Ka).size : Int) ((str Kb).size : Int)) = (MN : Int) := by rw [str_size, str_size]; omega
      have q6 : (MN : Int) ≤ ((str Ka).size : Int) := by rw [str_size]; omega
      have q7 : (MN : Int) ≤ ((str Kb).size : Int) := by rw [str_size]; omega
      have q4 : (((str Ka).extract 0 MN).toList == ((str Kb).extract 0 MN).toList) = false := by rw [ext_takeV, ext_takeV, str_toList, str_toList, hMN]; simpa using H4.out
      rw [q5]
      clear hMN q5
      go_upto_region 8 with (fail)
      go_quiet (fail)
      go_wp2
      go_ret
      exact ⟨rfl, HS4.out.drewN _⟩
  · intro vs wR hvl hvp hsR
    rcases vs with _ | ⟨z0, _ | ⟨z1, _ | ⟨z2, _ | ⟨z3, _ | ⟨z4, _ | ⟨zz, zr⟩⟩⟩⟩⟩⟩
    rotate_right 1
    · simp at hvl
    · simp at hvl
    · simp at hvl
    · simp at hvl
    · simp at hvl
    · simp at hvl
    · obtain rfl : z0 = (.agg #[.int .i64 a.kind, .int .i64 a.n, .string (str a.s)]) := hvp 0 (by omega)
      have hx : (⟨fun v w => OwnB w w3.heap.size v Ka, fun _ _ _ h k => h.keepAll k⟩ : SP).p z1 wR := hvp 1 (by omega)
      obtain rfl : z2 = (.string (str Ka)) := hvp 2 (by omega)
      obtain rfl : z3 = (.agg #[.int .i64 b.kind, .int .i64 b.n, .string (str b.s)]) := hvp 3 (by omega)
      have hy : (⟨fun v w => OwnB w w3.heap.size v Kb, fun _ _ _ h k => h.keepAll k⟩ : SP).p z4 wR := hvp 4 (by omega)
      clear hvl hvp
      simp only [putAll, Act.put, List.setIfInBounds_toArray, List.set_cons_succ, List.set_cons_zero, List.take_succ_cons, List.take_zero, List.drop_succ_cons, List.drop_zero, List.eraseIdx_cons_succ, List.eraseIdx_cons_zero]
      have HSR := Lib.hid (HS3.out.trans hsR)
      obtain ⟨yA, yc, rfl, -, -⟩ := OwnB.form hy
      have hcv := conv_by (OwnB.by_ hy)
      clear hx hy
      have hraR : Row wR w.heap.size 24 (valCs a) := HRa.out.keep hsR trivial
      have hrbR : Row wR (w.heap.size + 1) 24 (valCs b) := HRb.out.keep hsR trivial
      clear HRa HRb a30 a31 a32 b30 b31 b32
      obtain ⟨aR0, aR1, aR2, -, -, -⟩ := val_cells hraR
      obtain ⟨bR0, bR1, bR2, -, -, -⟩ := val_cells hrbR
      have laR := hraR.lt
      have lbR := hrbR.lt
      have HRa := Lib.hid hraR
      have HRb := Lib.hid hrbR
      clear hraR hrbR hsR
      go_wp2_with (go_at_call 21; refine stopAt ?_)
      unfold Hid
      clear hcv
      refine (hcm _).mono ?_
      rintro e w4 ⟨rfl, hs4⟩
      have hra4 : Row w4 w.heap.size 24 (valCs a) := HRa.out.keep hs4 trivial
      have hrb4 : Row w4 (w.heap.size + 1) 24 (valCs b) := HRb.out.keep hs4 trivial
      have HS4 := Lib.hid (HSR.out.trans hs4)
      clear HRa HRb
      obtain ⟨a40, a41, a42, -, -, -⟩ := val_cells hra4
      have la4 := hra4.lt
      have HRa := Lib.hid hra4
      obtain ⟨b40, b41, b42, -, -, -⟩ := val_cells hrb4
      have lb4 := hrb4.lt
      have HRb := Lib.hid hrb4
      clear hra4 hrb4 hs4
      clear aR0 aR1 aR2 bR0 bR1 bR2
      clear laR lbR
      have q1 : Op.bytesLess Ka Kb = false := H2.out
      have q0 : (Ka == Kb) = false := by simpa using H3.out
      have q9 : ¬ Ka = Kb := H3.out
      have q2 : (str Ka == str Kb) = false := by rw [str_beq]; simpa using H3.out
      have q3 := fun W => eqV a b W
      rw [decide_eq_false H1.out] at q3
      obtain ⟨MN, hMN⟩ : ∃ m : Nat, m = min Ka.length Kb.length := ⟨_, rfl⟩
      have q5 : (min ((str Ka).size : Int) ((str Kb).size : Int)) = (MN : Int) := by rw [str_size, str_size]; omega
      have q6 : (MN : Int) ≤ ((str Ka).size : Int) := by rw [str_size]; omega
      have q7 : (MN : Int) ≤ ((str Kb).size : Int) := by rw [str_size]; omega
      have q4 : (((str Ka).extract 0 MN).toList == ((str Kb).extract 0 MN).toList) = false := by rw [ext_takeV, ext_takeV, str_toList, str_toList, hMN]; simpa using H4.out
      rw [q5]
      clear hMN q5
      go_upto_region 8 with (fail)
      go_quiet (fail)
      go_wp2
      go_ret
      exact ⟨rfl, HS4.out.drewN _⟩
set_option maxRecDepth 100000 in
set_option maxHeartbeats 4000000 in
theorem keys_eq (a b : Val) (w : World) (hE : EnvT w) (hna : I64 a.n) (hnb : I64 b.n) (ha : mayV a = true) (hb : mayV b = true) (h0 : cmpV a b = 0) (h1 : a = b) : Calls Tryd.prog 4 #[valV a, valV b] w (BoolP true w) := by
  have HE := Lib.hid hE
  clear hE
  have ra0 := (Row.new w 24 (valCs a)).keep ((Same.refl (fun _ => True) _).alloc (.cells #[.int .i64 b.kind, .int .i64 b.n, .string (str b.s)] 24)) trivial
  have rb0 := Row.new (w.alloc (.cells #[.int .i64 a.kind, .int .i64 a.n, .string (str a.s)] 24)) 24 (valCs b)
  rw [size_alloc1] at rb0
  have HRa : Hid (Row ((w.alloc (.cells #[.int .i64 a.kind, .int .i64 a.n, .string (str a.s)] 24)).alloc (.cells #[.int .i64 b.kind, .int .i64 b.n, .string (str b.s)] 24)) w.heap.size 24 (valCs a)) := Lib.hid ra0
  have HRb : Hid (Row ((w.alloc (.cells #[.int .i64 a.kind, .int .i64 a.n, .string (str a.s)] 24)).alloc (.cells #[.int .i64 b.kind, .int .i64 b.n, .string (str b.s)] 24)) (w.heap.size + 1) 24 (valCs b)) := Lib.hid rb0
  clear ra0 rb0
  unfold BoolP
  have hma := fun W => exMay_any a W
  rw [ha] at hma
  unfold BoolP at hma
  have hmb := fun W => exMay_any b W
  rw [hb] at hmb
  unfold BoolP at hmb
  have hka := fun W => key_any a (.slice none 0 0) [] (fun _ => True) W (By.none_ _ _ _ _ (by simp [maxLen])) (by simp) hna
  have hkb := fun W => key_any b (.slice none 0 0) [] (fun _ => True) W (By.none_ _ _ _ _ (by simp [maxLen])) (by simp) hnb
  simp only [List.nil_append] at hka hkb
  unfold OwnPost at hka hkb
  have hcm := fun W => exCompare_any a b W
  have hla := keyL_len ((mayV_iff a).1 ha)
  have hlb := keyL_len ((mayV_iff b).1 hb)
  rw [h0] at hcm
  obtain ⟨Ka, hKa⟩ : ∃ K, K = keyL a := ⟨_, rfl⟩
  obtain ⟨Kb, hKb⟩ : ∃ K, K = keyL b := ⟨_, rfl⟩
  rw [← hKa] at hka hla
  rw [← hKb] at hkb hlb
  have HK : Hid (Kb = Ka) := Lib.hid (by rw [hKa, hKb, h1])
  have HLA := Lib.hid hla
  have HLB := Lib.hid hlb
  have HE1 := Lib.hid h1
  clear hKa hKb h0 h1 hla hlb
  go_enter Tryd.func4, Tryd.ntmps4
  go_wp2_with (go_at_call 8; refine stopAt ?_)
  unfold Hid
  refine (begun_any _ (HE.out.keepAll ((Same.refl (fun _ => True) w).alloc _ |>.alloc _))).mono ?_
  rintro e w1 ⟨rfl, hs1⟩
  have hra1 : Row w1 w.heap.size 24 (valCs a) := HRa.out.keep hs1 trivial
  have hrb1 : Row w1 (w.heap.size + 1) 24 (valCs b) := HRb.out.keep hs1 trivial
  have HS1 := Lib.hid (((Same.refl (fun _ => True) w).alloc (.cells #[.int .i64 a.kind, .int .i64 a.n, .string (str a.s)] 24) |>.alloc (.cells #[.int .i64 b.kind, .int .i64 b.n, .string (str b.s)] 24)).trans hs1)
  clear HRa HRb
  obtain ⟨a10, a11, a12, -, -, -⟩ := val_cells hra1
  have la1 := hra1.lt
  have HRa := Lib.hid hra1
  obtain ⟨b10, b11, b12, -, -, -⟩ := val_cells hrb1
  have lb1 := hrb1.lt
  have HRb := Lib.hid hrb1
  clear hra1 hrb1 hs1
  go_wp2_with (go_at_call 16; refine stopAt ?_)
  unfold Hid
  refine (hma _).mono ?_
  rintro e w2 ⟨rfl, hs2⟩
  have hra2 : Row w2 w.heap.size 24 (valCs a) := HRa.out.keep hs2 trivial
  have hrb2 : Row w2 (w.heap.size + 1) 24 (valCs b) := HRb.out.keep hs2 trivial
  have HS2 := Lib.hid (HS1.out.trans hs2)
  clear HRa HRb
  obtain ⟨a20, a21, a22, -, -, -⟩ := val_cells hra2
  have la2 := hra2.lt
  have HRa := Lib.hid hra2
  obtain ⟨b20, b21, b22, -, -, -⟩ := val_cells hrb2
  have lb2 := hrb2.lt
  have HRb := Lib.hid hrb2
  clear hra2 hrb2 hs2
  clear a10 a11 a12 b10 b11 b12
  go_wp2_with (go_at_call 16; refine stopAt ?_)
  unfold Hid
  refine (hmb _).mono ?_
  rintro e w3 ⟨rfl, hs3⟩
  have hra3 : Row w3 w.heap.size 24 (valCs a) := HRa.out.keep hs3 trivial
  have hrb3 : Row w3 (w.heap.size + 1) 24 (valCs b) := HRb.out.keep hs3 trivial
  have HS3 := Lib.hid (HS2.out.trans hs3)
  clear HRa HRb
  obtain ⟨a30, a31, a32, -, -, -⟩ := val_cells hra3
  have la3 := hra3.lt
  have HRa := Lib.hid hra3
  obtain ⟨b30, b31, b32, -, -, -⟩ := val_cells hrb3
  have lb3 := hrb3.lt
  have HRb := Lib.hid hrb3
  clear hra3 hrb3 hs3
  clear a20 a21 a22 b20 b21 b22
  go_upto_region 5 with (fail)
  refine wp_region_tail_d (L := [.eq (.agg #[.int .i64 a.kind, .int .i64 a.n, .string (str a.s)]), .of ⟨fun v w => OwnB w w3.heap.size v Ka, fun _ _ _ h k => h.keepAll k⟩, .eq (.string (str Ka)), .eq (.agg #[.int .i64 b.kind, .int .i64 b.n, .string (str b.s)]), .of ⟨fun v w => OwnB w w3.heap.size v Kb, fun _ _ _ h k => h.keepAll k⟩, .eq (.string (str Kb))]) 6 5 (by omega) (by kernel_rfl) (by kernel_rfl) rfl rfl rfl rfl rfl rfl ?_ ?_ ?_
  · refine ⟨?_, ?_, ?_, ?_, ?_, ?_, trivial⟩
    · intro ac wc hs hd hz hf hw K hK
      have e0 : ac.eval (.tmp 2) = (.pointer (some ⟨w.heap.size, 0, none⟩)) := hf 2 rfl
      have m0 : wc.cell? ⟨w.heap.size, 0, none⟩ = some (.int .i64 a.kind) := hs.cell (p := ⟨w.heap.size, 0, none⟩) trivial a30
      have m1 : wc.cell? ⟨w.heap.size, 1, none⟩ = some (.int .i64 a.n) := hs.cell (p := ⟨w.heap.size, 1, none⟩) trivial a31
      have m2 : wc.cell? ⟨w.heap.size, 2, none⟩ = some (.string (str a.s)) := hs.cell (p := ⟨w.heap.size, 2, none⟩) trivial a32
      clear hd hz hf hw
      simp only [Region.wanted, if_true, Oper.wp, execOp, resolve, List.map_toArray, List.map_cons, List.map_nil, Option.map_some, Option.map_none, e0]
      go_simp
      exact hK _ _ rfl (Same.refl _ _)
    · intro ac wc hs hd hz hf hw K hK
      have e0 : ac.eval (.tmp 19) = (.agg #[.int .i64 a.kind, .int .i64 a.n, .string (str a.s)]) := hw 0 rfl
      clear hd hz hf hw
      simp only [Region.wanted, if_true, Oper.wp, execOp, resolve, List.map_toArray, List.map_cons, List.map_nil, Option.map_some, Option.map_none, e0]
      go_simp
      refine (hka _).mono ?_
      rintro e wd ⟨u, rfl, hu, hsu⟩
      exact hK _ _ (hu.lower hs.size) hsu
    · intro ac wc hs hd hz hf hw K hK
      have p0 : (⟨fun v w => OwnB w w3.heap.size v Ka, fun _ _ _ h k => h.keepAll k⟩ : SP).p (ac.eval (.tmp 20)) wc := hw 1 rfl
      obtain ⟨u0, e0⟩ : ∃ u, ac.eval (.tmp 20) = u := ⟨_, rfl⟩
      rw [e0] at p0
      obtain ⟨xA, xc, rfl, -, -⟩ := OwnB.form p0
      have hcv := conv_by (OwnB.by_ p0)
      clear hd hz hf hw
      simp only [Region.wanted, if_true, Oper.wp, execOp, resolve, List.map_toArray, List.map_cons, List.map_nil, Option.map_some, Option.map_none, e0]
      go_simp
      exact hK _ _ rfl (Same.refl _ _)
    · intro ac wc hs hd hz hf hw K hK
      have e0 : ac.eval (.tmp 3) = (.pointer (some ⟨w.heap.size + 1, 0, none⟩)) := hf 3 rfl
      have m0 : wc.cell? ⟨w.heap.size + 1, 0, none⟩ = some (.int .i64 b.kind) := hs.cell (p := ⟨w.heap.size + 1, 0, none⟩) trivial b30
      have m1 : wc.cell? ⟨w.heap.size + 1, 1, none⟩ = some (.int .i64 b.n) := hs.cell (p := ⟨w.heap.size + 1, 1, none⟩) trivial b31
      have m2 : wc.cell? ⟨w.heap.size + 1, 2, none⟩ = some (.string (str b.s)) := hs.cell (p := ⟨w.heap.size + 1, 2, none⟩) trivial b32
      clear hd hz hf hw
      simp only [Region.wanted, if_true, Oper.wp, execOp, resolve, List.map_toArray, List.map_cons, List.map_nil, Option.map_some, Option.map_none, e0]
      go_simp
      exact hK _ _ rfl (Same.refl _ _)
    · intro ac wc hs hd hz hf hw K hK
      have e0 : ac.eval (.tmp 22) = (.agg #[.int .i64 b.kind, .int .i64 b.n, .string (str b.s)]) := hw 3 rfl
      clear hd hz hf hw
      simp only [Region.wanted, if_true, Oper.wp, execOp, resolve, List.map_toArray, List.map_cons, List.map_nil, Option.map_some, Option.map_none, e0]
      go_simp
      refine (hkb _).mono ?_
      rintro e wd ⟨u, rfl, hu, hsu⟩
      exact hK _ _ (hu.lower hs.size) hsu
    · intro ac wc hs hd hz hf hw K hK
      have p0 : (⟨fun v w => OwnB w w3.heap.size v Kb, fun _ _ _ h k => h.keepAll k⟩ : SP).p (ac.eval (.tmp 23)) wc := hw 4 rfl
      obtain ⟨u0, e0⟩ : ∃ u, ac.eval (.tmp 23) = u := ⟨_, rfl⟩
      rw [e0] at p0
      obtain ⟨yA, xc, rfl, -, -⟩ := OwnB.form p0
      have hcv := conv_by (OwnB.by_ p0)
      clear hd hz hf hw
      simp only [Region.wanted, if_true, Oper.wp, execOp, resolve, List.map_toArray, List.map_cons, List.map_nil, Option.map_some, Option.map_none, e0]
      go_simp
      exact hK _ _ rfl (Same.refl _ _)
  · intro vs wR hvl hvp hsR
    rcases vs with _ | ⟨z0, _ | ⟨z1, _ | ⟨z2, _ | ⟨z3, _ | ⟨z4, _ | ⟨z5, _ | ⟨zz, zr⟩⟩⟩⟩⟩⟩⟩
    rotate_right 1
    · simp at hvl
    · simp at hvl
    · simp at hvl
    · simp at hvl
    · simp at hvl
    · simp at hvl
    · simp at hvl
    · obtain rfl : z0 = (.agg #[.int .i64 a.kind, .int .i64 a.n, .string (str a.s)]) := hvp 0 (by omega)
      have hx : (⟨fun v w => OwnB w w3.heap.size v Ka, fun _ _ _ h k => h.keepAll k⟩ : SP).p z1 wR := hvp 1 (by omega)
      obtain rfl : z2 = (.string (str Ka)) := hvp 2 (by omega)
      obtain rfl : z3 = (.agg #[.int .i64 b.kind, .int .i64 b.n, .string (str b.s)]) := hvp 3 (by omega)
      have hy : (⟨fun v w => OwnB w w3.heap.size v Kb, fun _ _ _ h k => h.keepAll k⟩ : SP).p z4 wR := hvp 4 (by omega)
      obtain rfl : z5 = (.string (str Kb)) := hvp 5 (by omega)
      clear hvl hvp
      simp only [putAll, Act.put, List.setIfInBounds_toArray, List.set_cons_succ, List.set_cons_zero, List.take_succ_cons, List.take_zero, List.drop_succ_cons, List.drop_zero, List.eraseIdx_cons_succ, List.eraseIdx_cons_zero]
      have HSR := Lib.hid (HS3.out.trans hsR)
      obtain ⟨yA, yc, rfl, -, -⟩ := OwnB.form hy
      have hcv := conv_by (OwnB.by_ hy)
      clear hx hy
      have hraR : Row wR w.heap.size 24 (valCs a) := HRa.out.keep hsR trivial
      have hrbR : Row wR (w.heap.size + 1) 24 (valCs b) := HRb.out.keep hsR trivial
      clear HRa HRb a30 a31 a32 b30 b31 b32
      obtain ⟨aR0, aR1, aR2, -, -, -⟩ := val_cells hraR
      obtain ⟨bR0, bR1, bR2, -, -, -⟩ := val_cells hrbR
      have laR := hraR.lt
      have lbR := hrbR.lt
      have HRa := Lib.hid hraR
      have HRb := Lib.hid hrbR
      clear hraR hrbR hsR
      go_wp2_with (go_at_call 21; refine stopAt ?_)
      unfold Hid
      clear hcv
      refine (hcm _).mono ?_
      rintro e w4 ⟨rfl, hs4⟩
      have hra4 : Row w4 w.heap.size 24 (valCs a) := HRa.out.keep hs4 trivial
      have hrb4 : Row w4 (w.heap.size + 1) 24 (valCs b) := HRb.out.keep hs4 trivial
      have HS4 := Lib.hid (HSR.out.trans hs4)
      clear HRa HRb
      obtain ⟨a40, a41, a42, -, -, -⟩ := val_cells hra4
      have la4 := hra4.lt
      have HRa := Lib.hid hra4
      obtain ⟨b40, b41, b42, -, -, -⟩ := val_cells hrb4
      have lb4 := hrb4.lt
      have HRb := Lib.hid hrb4
      clear hra4 hrb4 hs4
      clear aR0 aR1 aR2 bR0 bR1 bR2
      clear laR lbR
      have q3 := fun W => eqV a b W
      rw [decide_eq_true HE1.out] at q3
      rw [HK.out]
      have q1 : Op.bytesLess Ka Ka = false := ltB_irrefl Ka
      go_upto_region 8 with (fail)

      go_quiet (fail)
      go_wp2
      go_ret
      exact ⟨rfl, HS4.out.drewN _⟩
  · intro vs wR hvl hvp hsR
    rcases vs with _ | ⟨z0, _ | ⟨z1, _ | ⟨z2, _ | ⟨z3, _ | ⟨z4, _ | ⟨zz, zr⟩⟩⟩⟩⟩⟩
    rotate_right 1
    · simp at hvl
    · simp at hvl
    · simp at hvl
    · simp at hvl
    · simp at hvl
    · simp at hvl
    · obtain rfl : z0 = (.agg #[.int .i64 a.kind, .int .i64 a.n, .string (str a.s)]) := hvp 0 (by omega)
      have hx : (⟨fun v w => OwnB w w3.heap.size v Ka, fun _ _ _ h k => h.keepAll k⟩ : SP).p z1 wR := hvp 1 (by omega)
      obtain rfl : z2 = (.string (str Ka)) := hvp 2 (by omega)
      obtain rfl : z3 = (.agg #[.int .i64 b.kind, .int .i64 b.n, .string (str b.s)]) := hvp 3 (by omega)
      have hy : (⟨fun v w => OwnB w w3.heap.size v Kb, fun _ _ _ h k => h.keepAll k⟩ : SP).p z4 wR := hvp 4 (by omega)
      clear hvl hvp
      simp only [putAll, Act.put, List.setIfInBounds_toArray, List.set_cons_succ, List.set_cons_zero, List.take_succ_cons, List.take_zero, List.drop_succ_cons, List.drop_zero, List.eraseIdx_cons_succ, List.eraseIdx_cons_zero]
      have HSR := Lib.hid (HS3.out.trans hsR)
      obtain ⟨yA, yc, rfl, -, -⟩ := OwnB.form hy
      have hcv := conv_by (OwnB.by_ hy)
      clear hx hy
      have hraR : Row wR w.heap.size 24 (valCs a) := HRa.out.keep hsR trivial
      have hrbR : Row wR (w.heap.size + 1) 24 (valCs b) := HRb.out.keep hsR trivial
      clear HRa HRb a30 a31 a32 b30 b31 b32
      obtain ⟨aR0, aR1, aR2, -, -, -⟩ := val_cells hraR
      obtain ⟨bR0, bR1, bR2, -, -, -⟩ := val_cells hrbR
      have laR := hraR.lt
      have lbR := hrbR.lt
      have HRa := Lib.hid hraR
      have HRb := Lib.hid hrbR
      clear hraR hrbR hsR
      go_wp2_with (go_at_call 21; refine stopAt ?_)
      unfold Hid
      clear hcv
      refine (hcm _).mono ?_
      rintro e w4 ⟨rfl, hs4⟩
      have hra4 : Row w4 w.heap.size 24 (valCs a) := HRa.out.keep hs4 trivial
      have hrb4 : Row w4 (w.heap.size + 1) 24 (valCs b) := HRb.out.keep hs4 trivial
      have HS4 := Lib.hid (HSR.out.trans hs4)
      clear HRa HRb
      obtain ⟨a40, a41, a42, -, -, -⟩ := val_cells hra4
      have la4 := hra4.lt
      have HRa := Lib.hid hra4
      obtain ⟨b40, b41, b42, -, -, -⟩ := val_cells hrb4
      have lb4 := hrb4.lt
      have HRb := Lib.hid hrb4
      clear hra4 hrb4 hs4
      clear aR0 aR1 aR2 bR0 bR1 bR2
      clear laR lbR
      have q3 := fun W => eqV a b W
      rw [decide_eq_true HE1.out] at q3
      rw [HK.out]
      have q1 : Op.bytesLess Ka Ka = false := ltB_irrefl Ka
      go_upto_region 8 with (fail)

      go_quiet (fail)
      go_wp2
      go_ret
      exact ⟨rfl, HS4.out.drewN _⟩
theorem keys_walk (a b : Val) (w : World) (hE : EnvT w) (hna : I64 a.n) (hnb : I64 b.n) : Calls Tryd.prog 4 #[valV a, valV b] w (BoolP true w) := by
  cases ha : mayV a
  · exact keys_no0 a b w hE ha
  cases hb : mayV b
  · exact keys_no10 a b w hE ha hb
  rcases keys_facts ((mayV_iff a).1 ha) ((mayV_iff b).1 hb) hna hnb with ⟨h0, h1⟩ | ⟨h0, h1, h2, h3, h4⟩ | ⟨h0, h1, h2, h3, h4⟩
  · exact keys_eq a b w hE hna hnb ha hb h0 h1
  · exact keys_lt a b w hE hna hnb ha hb h0 h1 h2 h3 h4
  · exact keys_gt a b w hE hna hnb ha hb h0 h1 h2 h3 h4
end Go.Proofs.YtpbekhcogpkbpaaDoor
