/-
  The walks of the document's kind and Type.
-/
import Derived.Test.YtakbikibahhepaaExR2
set_option linter.unusedSimpArgs false
set_option linter.unusedVariables false
namespace Go.Proofs.Ytakbikibahhepaa
open Go.RowKit

set_option maxRecDepth 100000 in
set_option maxHeartbeats 4000000 in
theorem kind_other (u cu : Value) (t : TabT) (cols : List Clm) (e : Ex) (S : Nat → Prop) (w : World) (hv : ExR w S u e) (ht : TabR w S cu t cols) (h1 : e.kind ≠ 1) (h2 : e.kind ≠ 2) (h3 : e.kind ≠ 3) :
    Calls Try.prog 27 #[tabV cu t, exV u e] w (NumS (typedF cols e) w) := by
  obtain ⟨hcl, a1, n1, c1, a2, n2, c2, a3, n3, c3, q1, q2, q3⟩ := ht
  obtain ⟨Ac, cc, rfl, hcc, hcm⟩ := hcl.form
  obtain ⟨nm, key, place, region, v1, v2, v3, elect, commit, survive⟩ := t
  simp only at q1 q2 q3
  subst q1 q2 q3
  obtain ⟨A, c, rfl, hc, hm⟩ := hv.toL.form
  unfold maxLen at hm hcm
  obtain ⟨TC, hTC⟩ : ∃ TC, TC = tabCs (.slice Ac cols.length cc) ⟨nm, key, place, region, .slice a1 n1 c1, .slice a2 n2 c2, .slice a3 n3 c3, elect, commit, survive⟩ := ⟨_, rfl⟩
  have hS0 := ((Same.refl (fun _ => True) w).alloc (.cells TC.toArray 32)).alloc (.cells (exCs (.slice A e.args.length c) e).toArray 26)
  have hrt := (Row.new w 32 TC).keep ((Same.refl (fun _ => True) _).alloc (.cells (exCs (.slice A e.args.length c) e).toArray 26)) trivial
  have hre := Row.new (w.alloc (.cells TC.toArray 32)) 26 (exCs (.slice A e.args.length c) e)
  rw [World.size_alloc] at hre
  have HS0 := Lib.hid hS0
  have Hrt := Lib.hid hrt
  have Hre := Lib.hid hre
  have HTC := Lib.hid hTC
  have Hcl := Lib.hid hcl
  have Hv := Lib.hid hv.toL
  have HK := Lib.hid (typedF_eq cols e)
  obtain ⟨F, hF⟩ : ∃ F, typedF cols e = F := ⟨_, rfl⟩
  rw [hF]
  have HF := Lib.hid hF
  clear hTC hS0 hrt hre hcl hv hF
  have E := HF.out.symm.trans (HK.out.trans (by rw [if_neg h1, if_neg h2, if_neg h3]))
  have HE := Lib.hid E
  have b1 : (e.kind == 1) = false := by simpa using h1
  have b2 : (e.kind == 2) = false := by simpa using h2
  have b3 : (e.kind == 3) = false := by simpa using h3
  clear E h1 h2 h3
  go_enter Try.func27, Try.ntmps27
  go_wp2
  go_ret2
  exact NumS.mk' HE.out (by have := HS0.out; rw [HTC.out] at this; exact this)
set_option maxRecDepth 100000 in
set_option maxHeartbeats 4000000 in
theorem kind_value (u cu : Value) (t : TabT) (cols : List Clm) (e : Ex) (S : Nat → Prop) (w : World) (hv : ExR w S u e) (ht : TabR w S cu t cols) (h1 : e.kind = 1) :
    Calls Try.prog 27 #[tabV cu t, exV u e] w (NumS (typedF cols e) w) := by
  obtain ⟨hcl, a1, n1, c1, a2, n2, c2, a3, n3, c3, q1, q2, q3⟩ := ht
  obtain ⟨Ac, cc, rfl, hcc, hcm⟩ := hcl.form
  obtain ⟨nm, key, place, region, v1, v2, v3, elect, commit, survive⟩ := t
  simp only at q1 q2 q3
  subst q1 q2 q3
  obtain ⟨A, c, rfl, hc, hm⟩ := hv.toL.form
  unfold maxLen at hm hcm
  obtain ⟨TC, hTC⟩ : ∃ TC, TC = tabCs (.slice Ac cols.length cc) ⟨nm, key, place, region, .slice a1 n1 c1, .slice a2 n2 c2, .slice a3 n3 c3, elect, commit, survive⟩ := ⟨_, rfl⟩
  have hS0 := ((Same.refl (fun _ => True) w).alloc (.cells TC.toArray 32)).alloc (.cells (exCs (.slice A e.args.length c) e).toArray 26)
  have hrt := (Row.new w 32 TC).keep ((Same.refl (fun _ => True) _).alloc (.cells (exCs (.slice A e.args.length c) e).toArray 26)) trivial
  have hre := Row.new (w.alloc (.cells TC.toArray 32)) 26 (exCs (.slice A e.args.length c) e)
  rw [World.size_alloc] at hre
  have HS0 := Lib.hid hS0
  have Hrt := Lib.hid hrt
  have Hre := Lib.hid hre
  have HTC := Lib.hid hTC
  have Hcl := Lib.hid hcl
  have Hv := Lib.hid hv.toL
  have HK := Lib.hid (typedF_eq cols e)
  obtain ⟨F, hF⟩ : ∃ F, typedF cols e = F := ⟨_, rfl⟩
  rw [hF]
  have HF := Lib.hid hF
  clear hTC hS0 hrt hre hcl hv hF
  have E := HF.out.symm.trans (HK.out.trans (if_pos h1))
  have HE := Lib.hid E
  have b1 : (e.kind == 1) = true := by simpa using h1
  have gm := fun W => refMay_any e.v W
  obtain ⟨M, hM⟩ : ∃ M, mayV e.v = M := ⟨_, rfl⟩
  rw [hM] at gm
  have HM := Lib.hid hM
  have l0 : e.s.isEmpty = decide (e.s = []) := by cases e.s <;> rfl
  clear E h1 hM
  obtain ⟨W0, hW0⟩ : ∃ W0, W0 = (w.alloc (.cells TC.toArray 32)).alloc (.cells (exCs (.slice A e.args.length c) e).toArray 26) := ⟨_, rfl⟩
  have HW0 := Lib.hid hW0
  have hrt : Row W0 w.heap.size 32 TC := hW0 ▸ Hrt.out
  have hre : Row W0 (w.heap.size + 1) 26 (exCs (.slice A e.args.length c) e) := hW0 ▸ Hre.out
  have hS0 : Same (fun _ => True) w W0 := hW0 ▸ HS0.out
  have k0 : W0.cell? ⟨w.heap.size + 1, 0, none⟩ = some (.int .i64 e.kind) := hre.cell 0
  have k1 : W0.cell? ⟨w.heap.size + 1, 1, none⟩ = some (.string (str e.s)) := hre.cell 1
  have k2 : W0.cell? ⟨w.heap.size + 1, 2, none⟩ = some (.int .i64 e.v.kind) := hre.cell 2
  have k3 : W0.cell? ⟨w.heap.size + 1, 3, none⟩ = some (.int .i64 e.v.n) := hre.cell 3
  have k4 : W0.cell? ⟨w.heap.size + 1, 4, none⟩ = some (.string (str e.v.s)) := hre.cell 4
  have k5 : W0.cell? ⟨w.heap.size + 1, 5, none⟩ = some (.slice A e.args.length c) := hre.cell 5
  have HS := Lib.hid hS0
  have Hre := Lib.hid hre
  have z0 := hre.lt
  clear hW0 hrt hS0 hre
  by_cases ha : e.args = []
  · have x1 : e.args.length ≤ 0 := by rw [ha]; simp
    have x2 : ¬ (0 : Int) < (e.args.length : Int) := by omega
    by_cases hs : e.s = []
    · have l1 : e.s.isEmpty = true := by rw [l0]; simpa using hs
      have Hs := Lib.hid hs
      have Ha := Lib.hid ha
      clear l0 hs ha
      go_enter Try.func27, Try.ntmps27
      go_wp2_with (go_at_call 35; refine stopAt ?_)
      unfold Hid
      have e0 := HW0.out
      have e1 := HTC.out
      simp only [tabCs] at e1
      simp only [exCs, e1] at e0
      rw [← e0]
      clear e0 e1
      refine (gm _).mono ?_
      rintro e' w3 ⟨rfl, hS3⟩
      have hre3 := Hre.out.keep hS3 trivial
      have k0 : w3.cell? ⟨w.heap.size + 1, 0, none⟩ = some (.int .i64 e.kind) := hre3.cell 0
      have k1 : w3.cell? ⟨w.heap.size + 1, 1, none⟩ = some (.string (str e.s)) := hre3.cell 1
      have k2 : w3.cell? ⟨w.heap.size + 1, 2, none⟩ = some (.int .i64 e.v.kind) := hre3.cell 2
      have k3 : w3.cell? ⟨w.heap.size + 1, 3, none⟩ = some (.int .i64 e.v.n) := hre3.cell 3
      have k4 : w3.cell? ⟨w.heap.size + 1, 4, none⟩ = some (.string (str e.v.s)) := hre3.cell 4
      have k5 : w3.cell? ⟨w.heap.size + 1, 5, none⟩ = some (.slice A e.args.length c) := hre3.cell 5
      have HS3 := Lib.hid hS3
      clear hS3 hre3
      cases M
      · have E := HE.out.trans (if_pos (.inr (.inr HM.out)))
        have HE := Lib.hid E
        clear E
        go_wp2
        go_ret2
        exact NumS.mk' HE.out (HS.out.trans HS3.out)
      · have E := HE.out.trans (if_neg (fun h => by
          rcases h with h | h | h
          · exact h Hs.out
          · exact h Ha.out
          · rw [HM.out] at h; cases h))
        have HE := Lib.hid E
        clear E
        go_wp2
        go_ret2
        exact NumS.mk' HE.out (HS.out.trans HS3.out)
    · have l1 : e.s.isEmpty = false := by rw [l0]; simpa using hs
      have E := HE.out.trans (if_pos (.inl hs))
      have HE := Lib.hid E
      clear E hs l0 ha
      go_enter Try.func27, Try.ntmps27
      go_wp2
      have e0 := HW0.out
      have e1 := HTC.out
      simp only [tabCs] at e1
      simp only [exCs, e1] at e0
      rw [← e0]
      clear e0 e1
      go_ret2
      exact NumS.mk' HE.out HS.out
  · have x1 : 0 < e.args.length := List.length_pos_iff.2 ha
    have x2 : (0 : Int) < (e.args.length : Int) := by omega
    have E := HE.out.trans (if_pos (.inr (.inl ha)))
    have HE := Lib.hid E
    clear E ha l0
    go_enter Try.func27, Try.ntmps27
    go_wp2
    have e0 := HW0.out
    have e1 := HTC.out
    simp only [tabCs] at e1
    simp only [exCs, e1] at e0
    rw [← e0]
    clear e0 e1
    go_ret2
    exact NumS.mk' HE.out HS.out
set_option maxRecDepth 100000 in
set_option maxHeartbeats 4000000 in
theorem kind_name (u cu : Value) (t : TabT) (cols : List Clm) (e : Ex) (S : Nat → Prop) (w : World) (hv : ExR w S u e) (ht : TabR w S cu t cols) (h1 : e.kind = 2) :
    Calls Try.prog 27 #[tabV cu t, exV u e] w (NumS (typedF cols e) w) := by
  obtain ⟨hcl, a1, n1, c1, a2, n2, c2, a3, n3, c3, q1, q2, q3⟩ := ht
  obtain ⟨Ac, cc, rfl, hcc, hcm⟩ := hcl.form
  obtain ⟨nm, key, place, region, v1, v2, v3, elect, commit, survive⟩ := t
  simp only at q1 q2 q3
  subst q1 q2 q3
  obtain ⟨A, c, rfl, hc, hm⟩ := hv.toL.form
  unfold maxLen at hm hcm
  obtain ⟨TC, hTC⟩ : ∃ TC, TC = tabCs (.slice Ac cols.length cc) ⟨nm, key, place, region, .slice a1 n1 c1, .slice a2 n2 c2, .slice a3 n3 c3, elect, commit, survive⟩ := ⟨_, rfl⟩
  have hS0 := ((Same.refl (fun _ => True) w).alloc (.cells TC.toArray 32)).alloc (.cells (exCs (.slice A e.args.length c) e).toArray 26)
  have hrt := (Row.new w 32 TC).keep ((Same.refl (fun _ => True) _).alloc (.cells (exCs (.slice A e.args.length c) e).toArray 26)) trivial
  have hre := Row.new (w.alloc (.cells TC.toArray 32)) 26 (exCs (.slice A e.args.length c) e)
  rw [World.size_alloc] at hre
  have HS0 := Lib.hid hS0
  have Hrt := Lib.hid hrt
  have Hre := Lib.hid hre
  have HTC := Lib.hid hTC
  have Hcl := Lib.hid hcl
  have Hv := Lib.hid hv.toL
  have HK := Lib.hid (typedF_eq cols e)
  obtain ⟨F, hF⟩ : ∃ F, typedF cols e = F := ⟨_, rfl⟩
  rw [hF]
  have HF := Lib.hid hF
  clear hTC hS0 hrt hre hcl hv hF
  have E := HF.out.symm.trans (HK.out.trans (by rw [if_neg (by omega), if_pos h1]))
  have HE := Lib.hid E
  have b1 : (e.kind == 1) = false := by rw [h1]; rfl
  have b2 : (e.kind == 2) = true := by rw [h1]; rfl
  obtain ⟨O, hO⟩ : ∃ O, colF cols e.s = O := ⟨_, rfl⟩
  have gc : ∀ W, Same (fun _ => True) w W → Calls Try.prog 36 #[tabV (.slice Ac cols.length cc) ⟨nm, key, place, region, .slice a1 n1 c1, .slice a2 n2 c2, .slice a3 n3 c3, elect, commit, survive⟩, .string (str e.s)] W (fun e w' => e = .returned (.int .i64 (idxI O)) ∧ Same (fun _ => True) W w') := fun W h => by
    rw [← hO]
    exact refcol_any (.slice Ac cols.length cc) ⟨nm, key, place, region, .slice a1 n1 c1, .slice a2 n2 c2, .slice a3 n3 c3, elect, commit, survive⟩ cols e.s S W (RowR.keepAll Hcl.out h) ⟨a1, n1, c1, a2, n2, c2, a3, n3, c3, rfl, rfl, rfl⟩
  have HO := Lib.hid hO
  clear E h1 hO
  obtain ⟨W0, hW0⟩ : ∃ W0, W0 = (w.alloc (.cells TC.toArray 32)).alloc (.cells (exCs (.slice A e.args.length c) e).toArray 26) := ⟨_, rfl⟩
  have HW0 := Lib.hid hW0
  have hrt : Row W0 w.heap.size 32 TC := hW0 ▸ Hrt.out
  have hre : Row W0 (w.heap.size + 1) 26 (exCs (.slice A e.args.length c) e) := hW0 ▸ Hre.out
  have hS0 : Same (fun _ => True) w W0 := hW0 ▸ HS0.out
  rw [HTC.out] at hrt
  have k0 : W0.cell? ⟨w.heap.size + 1, 0, none⟩ = some (.int .i64 e.kind) := hre.cell 0
  have k1 : W0.cell? ⟨w.heap.size + 1, 1, none⟩ = some (.string (str e.s)) := hre.cell 1
  have k2 : W0.cell? ⟨w.heap.size + 1, 2, none⟩ = some (.int .i64 e.v.kind) := hre.cell 2
  have k3 : W0.cell? ⟨w.heap.size + 1, 3, none⟩ = some (.int .i64 e.v.n) := hre.cell 3
  have k4 : W0.cell? ⟨w.heap.size + 1, 4, none⟩ = some (.string (str e.v.s)) := hre.cell 4
  have k5 : W0.cell? ⟨w.heap.size + 1, 5, none⟩ = some (.slice A e.args.length c) := hre.cell 5
  have t0 : W0.cell? ⟨w.heap.size, 0, none⟩ = some (.string (str nm)) := hrt.cell 0
  have t1 : W0.cell? ⟨w.heap.size, 1, none⟩ = some (.slice Ac cols.length cc) := hrt.cell 1
  have t2 : W0.cell? ⟨w.heap.size, 2, none⟩ = some (.int .i64 key) := hrt.cell 2
  have t3 : W0.cell? ⟨w.heap.size, 3, none⟩ = some (.int .i64 place) := hrt.cell 3
  have t4 : W0.cell? ⟨w.heap.size, 4, none⟩ = some (.int .i64 region) := hrt.cell 4
  have t5 : W0.cell? ⟨w.heap.size, 5, none⟩ = some (.slice a1 n1 c1) := hrt.cell 5
  have t6 : W0.cell? ⟨w.heap.size, 6, none⟩ = some (.slice a2 n2 c2) := hrt.cell 6
  have t7 : W0.cell? ⟨w.heap.size, 7, none⟩ = some (.slice a3 n3 c3) := hrt.cell 7
  have t8 : W0.cell? ⟨w.heap.size, 8, none⟩ = some (.int .i64 elect) := hrt.cell 8
  have t9 : W0.cell? ⟨w.heap.size, 9, none⟩ = some (.int .i64 commit) := hrt.cell 9
  have t10 : W0.cell? ⟨w.heap.size, 10, none⟩ = some (.int .i64 survive) := hrt.cell 10
  have HS := Lib.hid hS0
  have Hre := Lib.hid hre
  have Hrt := Lib.hid hrt
  have z0 := hre.lt
  have gc := gc W0 hS0
  clear hW0 hrt hS0 hre
  cases O with
  | none =>
    have E := HE.out.trans (by rw [HO.out])
    have HE := Lib.hid E
    clear E
    have gc : Calls _ _ _ _ (fun e w' => e = .returned (.int .i64 (-1)) ∧ _) := gc
    go_enter Try.func27, Try.ntmps27
    go_wp2_with (go_at_call 36; refine stopAt ?_)
    unfold Hid
    have e0 := HW0.out
    have e1 := HTC.out
    simp only [tabCs] at e1
    simp only [exCs, e1] at e0
    rw [← e0]
    clear e0 e1
    refine gc.mono ?_
    rintro e' w3 ⟨rfl, hS3⟩
    have HS3 := Lib.hid hS3
    clear hS3 gc
    go_wp2
    go_ret2
    exact NumS.mk' HE.out (HS.out.trans HS3.out)
  | some i =>
    have gc : Calls _ _ _ _ (fun e w' => e = .returned (.int .i64 (i : Int)) ∧ _) := gc
    have hi := colF_lt HO.out
    have E := HE.out.trans (by rw [HO.out])
    have HE : Hid (F = if e.args ≠ [] ∨ e.v ≠ .zero then ((0, 9) : Int × Int) else ((cols[i]?.map (·.kind)).getD 0, 0)) := Lib.hid E
    clear E
    have y1 : (0 : Int) ≤ (i : Int) := by omega
    have y2 : (i : Int) < (cols.length : Int) := by omega
    obtain ⟨Z, hZ⟩ : ∃ Z, decide (e.v ≠ .zero) = Z := ⟨_, rfl⟩
    have qz := val_runne e.v
    rw [hZ] at qz
    have HZ := Lib.hid hZ
    clear hZ
    by_cases ha : e.args = []
    · have x1 : e.args.length ≤ 0 := by rw [ha]; simp
      have x2 : ¬ (0 : Int) < (e.args.length : Int) := by omega
      have Ha := Lib.hid ha
      clear ha
      go_enter Try.func27, Try.ntmps27
      go_wp2_with (go_at_call 36; refine stopAt ?_)
      unfold Hid
      have e0 := HW0.out
      have e1 := HTC.out
      simp only [tabCs] at e1
      simp only [exCs, e1] at e0
      rw [← e0]
      clear e0 e1
      refine gc.mono ?_
      rintro e' w3 ⟨rfl, hS3⟩
      have hre3 := Hre.out.keep hS3 trivial
      have hrt3 := Hrt.out.keep hS3 trivial
      have k0 : w3.cell? ⟨w.heap.size + 1, 0, none⟩ = some (.int .i64 e.kind) := hre3.cell 0
      have k1 : w3.cell? ⟨w.heap.size + 1, 1, none⟩ = some (.string (str e.s)) := hre3.cell 1
      have k2 : w3.cell? ⟨w.heap.size + 1, 2, none⟩ = some (.int .i64 e.v.kind) := hre3.cell 2
      have k3 : w3.cell? ⟨w.heap.size + 1, 3, none⟩ = some (.int .i64 e.v.n) := hre3.cell 3
      have k4 : w3.cell? ⟨w.heap.size + 1, 4, none⟩ = some (.string (str e.v.s)) := hre3.cell 4
      have k5 : w3.cell? ⟨w.heap.size + 1, 5, none⟩ = some (.slice A e.args.length c) := hre3.cell 5
      have t1 : w3.cell? ⟨w.heap.size, 1, none⟩ = some (.slice Ac cols.length cc) := hrt3.cell 1
      obtain ⟨ad, rfl, -, d0, d1, d2⟩ := ClR.cells (RowR.keepAll Hcl.out (HS.out.trans hS3)) hi
      have hci : (cols[i]?.map (·.kind)).getD 0 = cols[i].kind := by rw [List.getElem?_eq_getElem hi]; rfl
      have Hci := Lib.hid hci
      generalize cols[i] = ci at *
      have HS3 := Lib.hid hS3
      have z1 := hre3.lt
      clear hS3 hre3 hrt3 gc hci
      cases Z
      · have E := HE.out.trans (if_neg (fun h => by
          rcases h with h | h
          · exact h Ha.out
          · have := HZ.out; simp at this; exact h this))
        rw [Hci.out] at E
        have HE := Lib.hid E
        clear E
        go_wp2
        go_ret2
        exact NumS.mk' HE.out (HS.out.trans HS3.out)
      · have E := HE.out.trans (if_pos (.inr (by have := HZ.out; simpa using this)))
        have HE := Lib.hid E
        clear E
        go_wp2
        go_ret2
        exact NumS.mk' HE.out (HS.out.trans HS3.out)
    · have x1 : 0 < e.args.length := List.length_pos_iff.2 ha
      have x2 : (0 : Int) < (e.args.length : Int) := by omega
      have E := HE.out.trans (if_pos (.inl ha))
      have HE := Lib.hid E
      clear E ha
      go_enter Try.func27, Try.ntmps27
      go_wp2_with (go_at_call 36; refine stopAt ?_)
      unfold Hid
      have e0 := HW0.out
      have e1 := HTC.out
      simp only [tabCs] at e1
      simp only [exCs, e1] at e0
      rw [← e0]
      clear e0 e1
      refine gc.mono ?_
      rintro e' w3 ⟨rfl, hS3⟩
      have hre3 := Hre.out.keep hS3 trivial
      have k0 : w3.cell? ⟨w.heap.size + 1, 0, none⟩ = some (.int .i64 e.kind) := hre3.cell 0
      have k1 : w3.cell? ⟨w.heap.size + 1, 1, none⟩ = some (.string (str e.s)) := hre3.cell 1
      have k2 : w3.cell? ⟨w.heap.size + 1, 2, none⟩ = some (.int .i64 e.v.kind) := hre3.cell 2
      have k3 : w3.cell? ⟨w.heap.size + 1, 3, none⟩ = some (.int .i64 e.v.n) := hre3.cell 3
      have k4 : w3.cell? ⟨w.heap.size + 1, 4, none⟩ = some (.string (str e.v.s)) := hre3.cell 4
      have k5 : w3.cell? ⟨w.heap.size + 1, 5, none⟩ = some (.slice A e.args.length c) := hre3.cell 5
      have HS3 := Lib.hid hS3
      have z1 := hre3.lt
      clear hS3 hre3 gc
      go_wp2
      go_ret2
      exact NumS.mk' HE.out (HS.out.trans HS3.out)
set_option maxRecDepth 100000 in
set_option maxHeartbeats 4000000 in
theorem kind_ops (u cu : Value) (t : TabT) (cols : List Clm) (e : Ex) (S : Nat → Prop) (w : World) (hv : ExR w S u e) (ht : TabR w S cu t cols) (h1 : e.kind = 3) (hko : ∀ (W : World) (u cu : Value), ExR W S u e → TabR W S cu t cols → Calls Try.prog 37 #[tabV cu t, exV u e] W (NumS (typR cols e.s e.v e.args []) W)) :
    Calls Try.prog 27 #[tabV cu t, exV u e] w (NumS (typedF cols e) w) := by
  have hv' := hv
  have ht' := ht
  obtain ⟨hcl, a1, n1, c1, a2, n2, c2, a3, n3, c3, q1, q2, q3⟩ := ht
  obtain ⟨Ac, cc, rfl, hcc, hcm⟩ := hcl.form
  obtain ⟨nm, key, place, region, v1, v2, v3, elect, commit, survive⟩ := t
  simp only at q1 q2 q3
  subst q1 q2 q3
  obtain ⟨A, c, rfl, hc, hm⟩ := hv.toL.form
  unfold maxLen at hm hcm
  obtain ⟨TC, hTC⟩ : ∃ TC, TC = tabCs (.slice Ac cols.length cc) ⟨nm, key, place, region, .slice a1 n1 c1, .slice a2 n2 c2, .slice a3 n3 c3, elect, commit, survive⟩ := ⟨_, rfl⟩
  have hS0 := ((Same.refl (fun _ => True) w).alloc (.cells TC.toArray 32)).alloc (.cells (exCs (.slice A e.args.length c) e).toArray 26)
  have hrt := (Row.new w 32 TC).keep ((Same.refl (fun _ => True) _).alloc (.cells (exCs (.slice A e.args.length c) e).toArray 26)) trivial
  have hre := Row.new (w.alloc (.cells TC.toArray 32)) 26 (exCs (.slice A e.args.length c) e)
  rw [World.size_alloc] at hre
  have HS0 := Lib.hid hS0
  have Hrt := Lib.hid hrt
  have Hre := Lib.hid hre
  have HTC := Lib.hid hTC
  have Hcl := Lib.hid hcl
  have Hv := Lib.hid hv.toL
  have HK := Lib.hid (typedF_eq cols e)
  obtain ⟨F, hF⟩ : ∃ F, typedF cols e = F := ⟨_, rfl⟩
  rw [hF]
  have HF := Lib.hid hF
  clear hTC hS0 hrt hre hcl hv hF
  have E := HF.out.symm.trans (HK.out.trans (by rw [if_neg (by omega), if_neg (by omega), if_pos h1]))
  have HE := Lib.hid E
  have b1 : (e.kind == 1) = false := by rw [h1]; rfl
  have b2 : (e.kind == 2) = false := by rw [h1]; rfl
  have b3 : (e.kind == 3) = true := by rw [h1]; rfl
  clear E h1
  obtain ⟨W0, hW0⟩ : ∃ W0, W0 = (w.alloc (.cells TC.toArray 32)).alloc (.cells (exCs (.slice A e.args.length c) e).toArray 26) := ⟨_, rfl⟩
  have HW0 := Lib.hid hW0
  have hrt : Row W0 w.heap.size 32 TC := hW0 ▸ Hrt.out
  have hre : Row W0 (w.heap.size + 1) 26 (exCs (.slice A e.args.length c) e) := hW0 ▸ Hre.out
  have hS0 : Same (fun _ => True) w W0 := hW0 ▸ HS0.out
  rw [HTC.out] at hrt
  have k0 : W0.cell? ⟨w.heap.size + 1, 0, none⟩ = some (.int .i64 e.kind) := hre.cell 0
  have k1 : W0.cell? ⟨w.heap.size + 1, 1, none⟩ = some (.string (str e.s)) := hre.cell 1
  have k2 : W0.cell? ⟨w.heap.size + 1, 2, none⟩ = some (.int .i64 e.v.kind) := hre.cell 2
  have k3 : W0.cell? ⟨w.heap.size + 1, 3, none⟩ = some (.int .i64 e.v.n) := hre.cell 3
  have k4 : W0.cell? ⟨w.heap.size + 1, 4, none⟩ = some (.string (str e.v.s)) := hre.cell 4
  have k5 : W0.cell? ⟨w.heap.size + 1, 5, none⟩ = some (.slice A e.args.length c) := hre.cell 5
  have t0 : W0.cell? ⟨w.heap.size, 0, none⟩ = some (.string (str nm)) := hrt.cell 0
  have t1 : W0.cell? ⟨w.heap.size, 1, none⟩ = some (.slice Ac cols.length cc) := hrt.cell 1
  have t2 : W0.cell? ⟨w.heap.size, 2, none⟩ = some (.int .i64 key) := hrt.cell 2
  have t3 : W0.cell? ⟨w.heap.size, 3, none⟩ = some (.int .i64 place) := hrt.cell 3
  have t4 : W0.cell? ⟨w.heap.size, 4, none⟩ = some (.int .i64 region) := hrt.cell 4
  have t5 : W0.cell? ⟨w.heap.size, 5, none⟩ = some (.slice a1 n1 c1) := hrt.cell 5
  have t6 : W0.cell? ⟨w.heap.size, 6, none⟩ = some (.slice a2 n2 c2) := hrt.cell 6
  have t7 : W0.cell? ⟨w.heap.size, 7, none⟩ = some (.slice a3 n3 c3) := hrt.cell 7
  have t8 : W0.cell? ⟨w.heap.size, 8, none⟩ = some (.int .i64 elect) := hrt.cell 8
  have t9 : W0.cell? ⟨w.heap.size, 9, none⟩ = some (.int .i64 commit) := hrt.cell 9
  have t10 : W0.cell? ⟨w.heap.size, 10, none⟩ = some (.int .i64 survive) := hrt.cell 10
  have hko := hko W0 _ _ (hv'.keepAll hS0) (ht'.keepAll hS0)
  rw [← HE.out] at hko
  have HS := Lib.hid hS0
  have z0 := hre.lt
  clear hW0 hrt hS0 hre hv' ht'
  go_enter Try.func27, Try.ntmps27
  go_wp2_with (go_at_call 37; refine stopAt ?_)
  unfold Hid
  have e0 := HW0.out
  have e1 := HTC.out
  simp only [tabCs] at e1
  simp only [exCs, e1] at e0
  rw [← e0]
  clear e0 e1
  refine hko.mono ?_
  rintro e' w3 ⟨rfl, hS3⟩
  have HS3 := Lib.hid hS3
  clear hS3 hko
  go_wp2
  go_ret2
  exact ⟨rfl, HS.out.trans HS3.out⟩
/-- The document's kind. -/
theorem refkind_any (t : TabT) (cols : List Clm) (S : Nat → Prop) : ∀ (e : Ex), e.size ≤ 100000 → ∀ (u cu : Value) (w : World), ExR w S u e → TabR w S cu t cols →
    Calls Try.prog 27 #[tabV cu t, exV u e] w (NumS (typedF cols e) w) := by
  apply Ex.ind2 (P := fun e => e.size ≤ 100000 → ∀ (u cu : Value) (w : World), ExR w S u e → TabR w S cu t cols → Calls Try.prog 27 #[tabV cu t, exV u e] w (NumS (typedF cols e) w))
  intro e ih hsz u cu w hv ht
  by_cases h1 : e.kind = 1
  · exact kind_value u cu t cols e S w hv ht h1
  by_cases h2 : e.kind = 2
  · exact kind_name u cu t cols e S w hv ht h2
  by_cases h3 : e.kind = 3
  · exact kind_ops u cu t cols e S w hv ht h3 fun W u cu hv ht => kindop_any u cu t cols e S W hv ht hsz fun a ha => ih a ha (by
      have := size_mem ha
      obtain ⟨k, s, v, l⟩ := e
      simp only [Ex.size] at hsz
      exact Nat.le_trans this (by show sizeL l ≤ _; omega))
  · exact kind_other u cu t cols e S w hv ht h1 h2 h3
set_option maxRecDepth 100000 in
set_option maxHeartbeats 4000000 in
theorem refType_any (u cu : Value) (t : TabT) (cols : List Clm) (e : Ex) (S : Nat → Prop) (w : World) (hv : ExR w S u e) (ht : TabR w S cu t cols) (hsz : e.size ≤ 100000) :
    Calls Try.prog 14 #[tabV cu t, exV u e] w (NumS (typeF cols e) w) := by
  have hv' := hv
  have ht' := ht
  obtain ⟨hcl, a1, n1, c1, a2, n2, c2, a3, n3, c3, q1, q2, q3⟩ := ht
  obtain ⟨Ac, cc, rfl, hcc, hcm⟩ := hcl.form
  obtain ⟨nm, key, place, region, v1, v2, v3, elect, commit, survive⟩ := t
  simp only at q1 q2 q3
  subst q1 q2 q3
  obtain ⟨A, c, rfl, hc, hm⟩ := hv.toL.form
  unfold maxLen at hm hcm
  obtain ⟨TC, hTC⟩ : ∃ TC, TC = tabCs (.slice Ac cols.length cc) ⟨nm, key, place, region, .slice a1 n1 c1, .slice a2 n2 c2, .slice a3 n3 c3, elect, commit, survive⟩ := ⟨_, rfl⟩
  have hS0 := ((Same.refl (fun _ => True) w).alloc (.cells TC.toArray 32)).alloc (.cells (exCs (.slice A e.args.length c) e).toArray 26)
  have hrt := (Row.new w 32 TC).keep ((Same.refl (fun _ => True) _).alloc (.cells (exCs (.slice A e.args.length c) e).toArray 26)) trivial
  have hre := Row.new (w.alloc (.cells TC.toArray 32)) 26 (exCs (.slice A e.args.length c) e)
  rw [World.size_alloc] at hre
  have HS0 := Lib.hid hS0
  have Hrt := Lib.hid hrt
  have Hre := Lib.hid hre
  have HTC := Lib.hid hTC
  have Hcl := Lib.hid hcl
  have Hv := Lib.hid hv.toL
  clear hTC hS0 hrt hre hcl hv
  obtain ⟨F, hF⟩ : ∃ F, typeF cols e = F := ⟨_, rfl⟩
  have HK : Hid (F = if (smallF e 1 0).1 then typedF cols e else (0, 3)) := Lib.hid (by rw [← hF]; rfl)
  rw [hF]
  have hgs := great_small e 1 0 (by omega)
  have hgr := fun W h => refgreat_any S e (.slice A e.args.length c) 1 4096 W h (by omega) (by omega)
  obtain ⟨R, hR⟩ : ∃ R, greatF e 1 4096 = R := ⟨_, rfl⟩
  obtain ⟨rn, rb⟩ := R
  rw [hR] at hgr
  rw [show (4096 - 0 : Nat) = 4096 from rfl, hR] at hgs
  have Hgs := Lib.hid hgs.1
  clear hF hgs hR
  obtain ⟨W0, hW0⟩ : ∃ W0, W0 = (w.alloc (.cells TC.toArray 32)).alloc (.cells (exCs (.slice A e.args.length c) e).toArray 26) := ⟨_, rfl⟩
  have HW0 := Lib.hid hW0
  have hrt : Row W0 w.heap.size 32 TC := hW0 ▸ Hrt.out
  have hre : Row W0 (w.heap.size + 1) 26 (exCs (.slice A e.args.length c) e) := hW0 ▸ Hre.out
  have hS0 : Same (fun _ => True) w W0 := hW0 ▸ HS0.out
  rw [HTC.out] at hrt
  have k0 : W0.cell? ⟨w.heap.size + 1, 0, none⟩ = some (.int .i64 e.kind) := hre.cell 0
  have k1 : W0.cell? ⟨w.heap.size + 1, 1, none⟩ = some (.string (str e.s)) := hre.cell 1
  have k2 : W0.cell? ⟨w.heap.size + 1, 2, none⟩ = some (.int .i64 e.v.kind) := hre.cell 2
  have k3 : W0.cell? ⟨w.heap.size + 1, 3, none⟩ = some (.int .i64 e.v.n) := hre.cell 3
  have k4 : W0.cell? ⟨w.heap.size + 1, 4, none⟩ = some (.string (str e.v.s)) := hre.cell 4
  have k5 : W0.cell? ⟨w.heap.size + 1, 5, none⟩ = some (.slice A e.args.length c) := hre.cell 5
  have t0 : W0.cell? ⟨w.heap.size, 0, none⟩ = some (.string (str nm)) := hrt.cell 0
  have t1 : W0.cell? ⟨w.heap.size, 1, none⟩ = some (.slice Ac cols.length cc) := hrt.cell 1
  have t2 : W0.cell? ⟨w.heap.size, 2, none⟩ = some (.int .i64 key) := hrt.cell 2
  have t3 : W0.cell? ⟨w.heap.size, 3, none⟩ = some (.int .i64 place) := hrt.cell 3
  have t4 : W0.cell? ⟨w.heap.size, 4, none⟩ = some (.int .i64 region) := hrt.cell 4
  have t5 : W0.cell? ⟨w.heap.size, 5, none⟩ = some (.slice a1 n1 c1) := hrt.cell 5
  have t6 : W0.cell? ⟨w.heap.size, 6, none⟩ = some (.slice a2 n2 c2) := hrt.cell 6
  have t7 : W0.cell? ⟨w.heap.size, 7, none⟩ = some (.slice a3 n3 c3) := hrt.cell 7
  have t8 : W0.cell? ⟨w.heap.size, 8, none⟩ = some (.int .i64 elect) := hrt.cell 8
  have t9 : W0.cell? ⟨w.heap.size, 9, none⟩ = some (.int .i64 commit) := hrt.cell 9
  have t10 : W0.cell? ⟨w.heap.size, 10, none⟩ = some (.int .i64 survive) := hrt.cell 10
  have HS := Lib.hid hS0
  have Hre := Lib.hid hre
  have Hrt := Lib.hid hrt
  have z0 := hre.lt
  have hgr := hgr W0 (hv'.keepAll hS0)
  have Hv' := Lib.hid hv'
  have Ht' := Lib.hid ht'
  clear hW0 hrt hS0 hre hv' ht'
  go_enter Try.func14, Try.ntmps14
  go_wp2_with (go_at_call 26; refine stopAt ?_)
  unfold Hid
  have e0 := HW0.out
  have e1 := HTC.out
  simp only [tabCs] at e1
  simp only [exCs, e1] at e0
  rw [← e0]
  clear e0 e1
  refine hgr.mono ?_
  rintro e' w3 ⟨rfl, hS3⟩
  have hre3 := Hre.out.keep hS3 trivial
  have hrt3 := Hrt.out.keep hS3 trivial
  have k0 : w3.cell? ⟨w.heap.size + 1, 0, none⟩ = some (.int .i64 e.kind) := hre3.cell 0
  have k1 : w3.cell? ⟨w.heap.size + 1, 1, none⟩ = some (.string (str e.s)) := hre3.cell 1
  have k2 : w3.cell? ⟨w.heap.size + 1, 2, none⟩ = some (.int .i64 e.v.kind) := hre3.cell 2
  have k3 : w3.cell? ⟨w.heap.size + 1, 3, none⟩ = some (.int .i64 e.v.n) := hre3.cell 3
  have k4 : w3.cell? ⟨w.heap.size + 1, 4, none⟩ = some (.string (str e.v.s)) := hre3.cell 4
  have k5 : w3.cell? ⟨w.heap.size + 1, 5, none⟩ = some (.slice A e.args.length c) := hre3.cell 5
  have t0 : w3.cell? ⟨w.heap.size, 0, none⟩ = some (.string (str nm)) := hrt3.cell 0
  have t1 : w3.cell? ⟨w.heap.size, 1, none⟩ = some (.slice Ac cols.length cc) := hrt3.cell 1
  have t2 : w3.cell? ⟨w.heap.size, 2, none⟩ = some (.int .i64 key) := hrt3.cell 2
  have t3 : w3.cell? ⟨w.heap.size, 3, none⟩ = some (.int .i64 place) := hrt3.cell 3
  have t4 : w3.cell? ⟨w.heap.size, 4, none⟩ = some (.int .i64 region) := hrt3.cell 4
  have t5 : w3.cell? ⟨w.heap.size, 5, none⟩ = some (.slice a1 n1 c1) := hrt3.cell 5
  have t6 : w3.cell? ⟨w.heap.size, 6, none⟩ = some (.slice a2 n2 c2) := hrt3.cell 6
  have t7 : w3.cell? ⟨w.heap.size, 7, none⟩ = some (.slice a3 n3 c3) := hrt3.cell 7
  have t8 : w3.cell? ⟨w.heap.size, 8, none⟩ = some (.int .i64 elect) := hrt3.cell 8
  have t9 : w3.cell? ⟨w.heap.size, 9, none⟩ = some (.int .i64 commit) := hrt3.cell 9
  have t10 : w3.cell? ⟨w.heap.size, 10, none⟩ = some (.int .i64 survive) := hrt3.cell 10
  have HS3 := Lib.hid (HS.out.trans hS3)
  have z3 := hre3.lt
  have hki := refkind_any _ cols S e hsz _ _ w3 (Hv'.out.keepAll HS3.out) (Ht'.out.keepAll HS3.out)
  clear hS3 hgr hre3 hrt3
  cases rb
  · have E : F = typedF cols e := HK.out.trans (if_pos (by have := Hgs.out; simpa using this.symm))
    have HE := Lib.hid E
    rw [← E] at hki
    clear E
    go_wp2_with (go_at_call 27; refine stopAt ?_)
    unfold Hid
    refine hki.mono ?_
    rintro e' w4 ⟨rfl, hS4⟩
    have HS4 := Lib.hid hS4
    clear hS4 hki
    go_wp2
    go_ret2
    exact ⟨rfl, HS3.out.trans HS4.out⟩
  · have E : F = (0, 3) := HK.out.trans (if_neg (by have := Hgs.out; simpa using this.symm))
    have HE := Lib.hid E
    clear E hki
    go_wp2
    go_ret2
    exact NumS.mk' HE.out HS3.out
end Go.Proofs.Ytakbikibahhepaa
