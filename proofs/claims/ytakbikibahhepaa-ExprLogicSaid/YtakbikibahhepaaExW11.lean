/-
  The walk of expr.typed.
-/
import Derived.Test.YtakbikibahhepaaExW10
set_option linter.unusedSimpArgs false
set_option linter.unusedVariables false
namespace Go.Proofs.Ytakbikibahhepaa
open Go.RowKit

theorem val_runne (v : Val) (w : World) : (binOp .neq 23 (valV v) (.agg #[.int .i64 0, .int .i64 0, .string ⟨#[]⟩])).run Try.prog w = .ok (.bool (decide (v ≠ .zero))) w := by
  have e : decide (v ≠ .zero) = !(v.kind == 0 && (v.n == 0 && v.s.isEmpty)) := by
    rw [Bool.eq_iff_iff]; obtain ⟨a, b, c⟩ := v; simp [Val.zero]
  rw [e]
  go_simp
  cases h1 : v.kind == 0 <;> cases h2 : v.n == 0 <;> cases h3 : v.s.isEmpty <;> simp_all
theorem TInt : SlT Try.prog 28 3 1 8 (.int .i64 0) := ⟨by kernel_rfl, by kernel_rfl, rfl, by omega⟩
abbrev OwnI (w : World) (B : Nat) (v : Value) (l : List Int) : Prop := OwnR (fun k => [Value.int .i64 k]) 1 3 w B v l
theorem OwnI.inr {w : World} {B : Nat} {v : Value} {l : List Int} (h : OwnI w B v l) : InR w (fun k => B ≤ k) v l := (OwnR.wr h).row fun _ => rfl
/-- What is behind the arguments. -/
def opFin (s : List UInt8) (v : Val) (ks : List Int) : Int × Int := if v ≠ .zero then (0, 9) else operF (opk s) ks
def typR (cols : List Clm) (s : List UInt8) (v : Val) (l : List Ex) (ks : List Int) : Int × Int := match typedL cols l with | .error e => (0, e) | .ok ks' => opFin s v (ks ++ ks')
theorem typR_step {cols : List Clm} {s : List UInt8} {v : Val} {l : List Ex} {ks : List Int} {j : Nat} (h : j < l.length) : typR cols s v (l.drop j) ks = if (typedF cols l[j]).2 ≠ 0 then (0, (typedF cols l[j]).2) else typR cols s v (l.drop (j + 1)) (ks ++ [(typedF cols l[j]).1]) := by
  unfold typR
  rw [drop_cons h, typedL]
  split
  · rename_i e he
    split at he
    · rename_i h1; rw [if_pos h1]; injection he with he; rw [he]
    · rename_i h1
      rw [if_neg h1]
      cases ht : typedL cols (l.drop (j + 1)) with
      | error e' => rw [ht] at he; injection he with he; rw [he]
      | ok ks' => rw [ht] at he; cases he
  · rename_i ks1 he
    split at he
    · cases he
    · rename_i h1
      rw [if_neg h1]
      cases ht : typedL cols (l.drop (j + 1)) with
      | error e' => rw [ht] at he; cases he
      | ok ks' =>
        rw [ht] at he
        injection he with he
        rw [← he]
        simp
theorem typR_end {cols : List Clm} {s : List UInt8} {v : Val} {ks : List Int} : typR cols s v [] ks = opFin s v ks := by simp [typR, typedL]
theorem typedF_eq (cols : List Clm) (e : Ex) : typedF cols e = (if e.kind = 1 then (if e.s ≠ [] ∨ e.args ≠ [] ∨ mayV e.v = false then ((0, 9) : Int × Int) else (e.v.kind, 0))
    else if e.kind = 2 then (match colF cols e.s with
      | none => ((0, 14) : Int × Int)
      | some i => if e.args ≠ [] ∨ e.v ≠ .zero then (0, 9) else ((cols[i]?.map (·.kind)).getD 0, 0))
    else if e.kind = 3 then typR cols e.s e.v e.args [] else ((0, 9) : Int × Int)) := by
  obtain ⟨k, s, v, l⟩ := e
  rw [typedF]
  unfold typR opFin
  rfl
theorem NumS.mk' {r : Int × Int} {w w' : World} {a b : Int} (h : r = (a, b)) (hs : Same (fun _ => True) w w') : NumS r w (.returned (.tuple #[.int .i64 a, .int .i64 b])) w' := by subst h; exact ⟨rfl, hs⟩
theorem colF_lt : ∀ {cols : List Clm} {s : List UInt8} {i : Nat}, colF cols s = some i → i < cols.length
  | [], _, _, h => by cases h
  | c :: l, s, i, h => by
    rw [colF] at h
    split at h
    · injection h with h; subst h; simp
    · cases hc : colF l s with
      | none => rw [hc] at h; cases h
      | some k =>
        rw [hc] at h
        injection h with h
        have := colF_lt hc
        subst h
        simp; omega
/-- A table, and its columns. -/
structure TabR (w : World) (S : Nat → Prop) (u : Value) (t : TabT) (cols : List Clm) : Prop where
  cl : ClR w S u cols
  ok : t.ok
theorem TabR.keepAll {w w' : World} {S : Nat → Prop} {u : Value} {t : TabT} {cols : List Clm} (h : TabR w S u t cols) (hs : Same (fun _ => True) w w') : TabR w' S u t cols := ⟨RowR.keepAll h.cl hs, h.ok⟩
-- BEHIND
set_option maxRecDepth 100000 in
set_option maxHeartbeats 4000000 in
theorem typed_other (u cu : Value) (t : TabT) (cols : List Clm) (e : Ex) (S : Nat → Prop) (w : World) (hv : ExR w S u e) (ht : TabR w S cu t cols) (h1 : e.kind ≠ 1) (h2 : e.kind ≠ 2) (h3 : e.kind ≠ 3) :
    Calls Try.prog 25 #[tabV cu t, exV u e] w (NumS (typedF cols e) w) := by
  obtain ⟨hcl, a1, n1, c1, a2, n2, c2, a3, n3, c3, q1, q2, q3⟩ := ht
  obtain ⟨Ac, cc, rfl, hcc, hcm⟩ := hcl.form
  obtain ⟨nm, key, place, region, v1, v2, v3, elect, commit, survive⟩ := t
  simp only at q1 q2 q3
  subst q1 q2 q3
  obtain ⟨A, c, rfl, hc, hm⟩ := hv.toL.form
  unfold maxLen at hm hcm
  obtain ⟨TC, hTC⟩ : ∃ TC, TC = tabCs (.slice Ac cols.length cc) ⟨nm, key, place, region, .slice a1 n1 c1, .slice a2 n2 c2, .slice a3 n3 c3, elect, commit, survive⟩ := ⟨_, rfl⟩
  have hS0 := ((Same.refl (fun _ => True) w).alloc (.cells TC.toArray 32)).alloc (.cells (exCs (.slice A e.args.length c) e).toArray 26)
  have hrt := (Row.new w 32 TC).keep ((Same.refl (fun _ => True) _).alloc (.cells (exCs (.slice A e.args.length c) e).toArray 26)) trivial
  have hre := Row.new (w.alloc (.cells TC.toArray 32)) 26 (exCs (.slice A e.args.length c) e)
  rw [World.size_alloc] at hre
  have HS0 := Lib.hid hS0
  have Hrt := Lib.hid hrt
  have Hre := Lib.hid hre
  have HTC := Lib.hid hTC
  have Hcl := Lib.hid hcl
  have Hv := Lib.hid hv.toL
  have HK := Lib.hid (typedF_eq cols e)
  obtain ⟨F, hF⟩ : ∃ F, typedF cols e = F := ⟨_, rfl⟩
  rw [hF]
  have HF := Lib.hid hF
  clear hTC hS0 hrt hre hcl hv hF
  have E := HF.out.symm.trans (HK.out.trans (by rw [if_neg h1, if_neg h2, if_neg h3]))
  have HE := Lib.hid E
  have b1 : (e.kind == 1) = false := by simpa using h1
  have b2 : (e.kind == 2) = false := by simpa using h2
  have b3 : (e.kind == 3) = false := by simpa using h3
  have e1 := HTC.out
  clear E h1 h2 h3
  go_enter Try.func25, Try.ntmps25
  go_wp2
  go_ret2
  exact NumS.mk' HE.out (by have := HS0.out; rw [HTC.out] at this; exact this)
set_option maxRecDepth 100000 in
set_option maxHeartbeats 4000000 in
theorem typed_value (u cu : Value) (t : TabT) (cols : List Clm) (e : Ex) (S : Nat → Prop) (w : World) (hv : ExR w S u e) (ht : TabR w S cu t cols) (h1 : e.kind = 1) :
    Calls Try.prog 25 #[tabV cu t, exV u e] w (NumS (typedF cols e) w) := by
  obtain ⟨hcl, a1, n1, c1, a2, n2, c2, a3, n3, c3, q1, q2, q3⟩ := ht
  obtain ⟨Ac, cc, rfl, hcc, hcm⟩ := hcl.form
  obtain ⟨nm, key, place, region, v1, v2, v3, elect, commit, survive⟩ := t
  simp only at q1 q2 q3
  subst q1 q2 q3
  obtain ⟨A, c, rfl, hc, hm⟩ := hv.toL.form
  unfold maxLen at hm hcm
  obtain ⟨TC, hTC⟩ : ∃ TC, TC = tabCs (.slice Ac cols.length cc) ⟨nm, key, place, region, .slice a1 n1 c1, .slice a2 n2 c2, .slice a3 n3 c3, elect, commit, survive⟩ := ⟨_, rfl⟩
  have hS0 := ((Same.refl (fun _ => True) w).alloc (.cells TC.toArray 32)).alloc (.cells (exCs (.slice A e.args.length c) e).toArray 26)
  have hrt := (Row.new w 32 TC).keep ((Same.refl (fun _ => True) _).alloc (.cells (exCs (.slice A e.args.length c) e).toArray 26)) trivial
  have hre := Row.new (w.alloc (.cells TC.toArray 32)) 26 (exCs (.slice A e.args.length c) e)
  rw [World.size_alloc] at hre
  have HS0 := Lib.hid hS0
  have Hrt := Lib.hid hrt
  have Hre := Lib.hid hre
  have HTC := Lib.hid hTC
  have Hcl := Lib.hid hcl
  have Hv := Lib.hid hv.toL
  have HK := Lib.hid (typedF_eq cols e)
  obtain ⟨F, hF⟩ : ∃ F, typedF cols e = F := ⟨_, rfl⟩
  rw [hF]
  have HF := Lib.hid hF
  clear hTC hS0 hrt hre hcl hv hF
  have E := HF.out.symm.trans (HK.out.trans (if_pos h1))
  have HE := Lib.hid E
  have b1 : (e.kind == 1) = true := by simpa using h1
  have gm := fun W => exMay_any e.v W
  obtain ⟨M, hM⟩ : ∃ M, mayV e.v = M := ⟨_, rfl⟩
  rw [hM] at gm
  have HM := Lib.hid hM
  have l0 : e.s.isEmpty = decide (e.s = []) := by cases e.s <;> rfl
  have H1 := Lib.hid h1
  clear E h1 hM
  obtain ⟨W0, hW0⟩ : ∃ W0, W0 = (w.alloc (.cells TC.toArray 32)).alloc (.cells (exCs (.slice A e.args.length c) e).toArray 26) := ⟨_, rfl⟩
  have HW0 := Lib.hid hW0
  have hrt : Row W0 w.heap.size 32 TC := hW0 ▸ Hrt.out
  have hre : Row W0 (w.heap.size + 1) 26 (exCs (.slice A e.args.length c) e) := hW0 ▸ Hre.out
  have hS0 : Same (fun _ => True) w W0 := hW0 ▸ HS0.out
  have k0 : W0.cell? ⟨w.heap.size + 1, 0, none⟩ = some (.int .i64 e.kind) := hre.cell 0
  have k1 : W0.cell? ⟨w.heap.size + 1, 1, none⟩ = some (.string (str e.s)) := hre.cell 1
  have k2 : W0.cell? ⟨w.heap.size + 1, 2, none⟩ = some (.int .i64 e.v.kind) := hre.cell 2
  have k3 : W0.cell? ⟨w.heap.size + 1, 3, none⟩ = some (.int .i64 e.v.n) := hre.cell 3
  have k4 : W0.cell? ⟨w.heap.size + 1, 4, none⟩ = some (.string (str e.v.s)) := hre.cell 4
  have k5 : W0.cell? ⟨w.heap.size + 1, 5, none⟩ = some (.slice A e.args.length c) := hre.cell 5
  have HS := Lib.hid hS0
  have Hre := Lib.hid hre
  have z0 := hre.lt
  clear hW0 hrt hS0 hre
  by_cases hs : e.s = []
  · have l1 : e.s.isEmpty = true := by rw [l0]; simpa using hs
    have Hs := Lib.hid hs
    clear l0 hs
    by_cases ha : e.args = []
    · have x1 : e.args.length ≤ 0 := by rw [ha]; simp
      have x2 : ¬ (0 : Int) < (e.args.length : Int) := by omega
      have Ha := Lib.hid ha
      clear ha
      go_enter Try.func25, Try.ntmps25
      go_wp2_with (go_at_call 28; refine stopAt ?_)
      unfold Hid
      have e0 := HW0.out
      have e1 := HTC.out
      simp only [tabCs] at e1
      simp only [exCs, e1] at e0
      rw [← e0]
      clear e0 e1
      refine (gm _).mono ?_
      rintro e' w3 ⟨rfl, hS3⟩
      have hre3 := Hre.out.keep hS3 trivial
      have k0 : w3.cell? ⟨w.heap.size + 1, 0, none⟩ = some (.int .i64 e.kind) := hre3.cell 0
      have k1 : w3.cell? ⟨w.heap.size + 1, 1, none⟩ = some (.string (str e.s)) := hre3.cell 1
      have k2 : w3.cell? ⟨w.heap.size + 1, 2, none⟩ = some (.int .i64 e.v.kind) := hre3.cell 2
      have k3 : w3.cell? ⟨w.heap.size + 1, 3, none⟩ = some (.int .i64 e.v.n) := hre3.cell 3
      have k4 : w3.cell? ⟨w.heap.size + 1, 4, none⟩ = some (.string (str e.v.s)) := hre3.cell 4
      have k5 : w3.cell? ⟨w.heap.size + 1, 5, none⟩ = some (.slice A e.args.length c) := hre3.cell 5
      have HS3 := Lib.hid hS3
      clear hS3 hre3
      cases M
      · have E := HE.out.trans (if_pos (.inr (.inr HM.out)))
        have HE := Lib.hid E
        clear E
        go_wp2
        go_ret2
        exact NumS.mk' HE.out (HS.out.trans HS3.out)
      · have E := HE.out.trans (if_neg (fun h => by
          rcases h with h | h | h
          · exact h Hs.out
          · exact h Ha.out
          · rw [HM.out] at h; cases h))
        have HE := Lib.hid E
        clear E
        go_wp2
        go_ret2
        exact NumS.mk' HE.out (HS.out.trans HS3.out)
    · have x1 : 0 < e.args.length := List.length_pos_iff.2 ha
      have x2 : (0 : Int) < (e.args.length : Int) := by omega
      have E := HE.out.trans (if_pos (.inr (.inl ha)))
      have HE := Lib.hid E
      clear E ha
      go_enter Try.func25, Try.ntmps25
      go_wp2
      have e0 := HW0.out
      have e1 := HTC.out
      simp only [tabCs] at e1
      simp only [exCs, e1] at e0
      rw [← e0]
      clear e0 e1
      go_ret2
      exact NumS.mk' HE.out HS.out
  · have l1 : e.s.isEmpty = false := by rw [l0]; simpa using hs
    have E := HE.out.trans (if_pos (.inl hs))
    have HE := Lib.hid E
    clear E hs l0
    go_enter Try.func25, Try.ntmps25
    go_wp2
    have e0 := HW0.out
    have e1 := HTC.out
    simp only [tabCs] at e1
    simp only [exCs, e1] at e0
    rw [← e0]
    clear e0 e1
    go_ret2
    exact NumS.mk' HE.out HS.out
set_option maxRecDepth 100000 in
set_option maxHeartbeats 4000000 in
theorem typed_name (u cu : Value) (t : TabT) (cols : List Clm) (e : Ex) (S : Nat → Prop) (w : World) (hv : ExR w S u e) (ht : TabR w S cu t cols) (h1 : e.kind = 2) :
    Calls Try.prog 25 #[tabV cu t, exV u e] w (NumS (typedF cols e) w) := by
  obtain ⟨hcl, a1, n1, c1, a2, n2, c2, a3, n3, c3, q1, q2, q3⟩ := ht
  obtain ⟨Ac, cc, rfl, hcc, hcm⟩ := hcl.form
  obtain ⟨nm, key, place, region, v1, v2, v3, elect, commit, survive⟩ := t
  simp only at q1 q2 q3
  subst q1 q2 q3
  obtain ⟨A, c, rfl, hc, hm⟩ := hv.toL.form
  unfold maxLen at hm hcm
  obtain ⟨TC, hTC⟩ : ∃ TC, TC = tabCs (.slice Ac cols.length cc) ⟨nm, key, place, region, .slice a1 n1 c1, .slice a2 n2 c2, .slice a3 n3 c3, elect, commit, survive⟩ := ⟨_, rfl⟩
  have hS0 := ((Same.refl (fun _ => True) w).alloc (.cells TC.toArray 32)).alloc (.cells (exCs (.slice A e.args.length c) e).toArray 26)
  have hrt := (Row.new w 32 TC).keep ((Same.refl (fun _ => True) _).alloc (.cells (exCs (.slice A e.args.length c) e).toArray 26)) trivial
  have hre := Row.new (w.alloc (.cells TC.toArray 32)) 26 (exCs (.slice A e.args.length c) e)
  rw [World.size_alloc] at hre
  have HS0 := Lib.hid hS0
  have Hrt := Lib.hid hrt
  have Hre := Lib.hid hre
  have HTC := Lib.hid hTC
  have Hcl := Lib.hid hcl
  have Hv := Lib.hid hv.toL
  have HK := Lib.hid (typedF_eq cols e)
  obtain ⟨F, hF⟩ : ∃ F, typedF cols e = F := ⟨_, rfl⟩
  rw [hF]
  have HF := Lib.hid hF
  clear hTC hS0 hrt hre hcl hv hF
  have E := HF.out.symm.trans (HK.out.trans (by rw [if_neg (by omega), if_pos h1]))
  have HE := Lib.hid E
  have b1 : (e.kind == 1) = false := by rw [h1]; rfl
  have b2 : (e.kind == 2) = true := by rw [h1]; rfl
  obtain ⟨O, hO⟩ : ∃ O, colF cols e.s = O := ⟨_, rfl⟩
  have gc : ∀ W, Same (fun _ => True) w W → Calls Try.prog 33 #[tabV (.slice Ac cols.length cc) ⟨nm, key, place, region, .slice a1 n1 c1, .slice a2 n2 c2, .slice a3 n3 c3, elect, commit, survive⟩, .string (str e.s)] W (fun e w' => e = .returned (.int .i64 (idxI O)) ∧ Same (fun _ => True) W w') := fun W h => by
    rw [← hO]
    exact excol_any (.slice Ac cols.length cc) ⟨nm, key, place, region, .slice a1 n1 c1, .slice a2 n2 c2, .slice a3 n3 c3, elect, commit, survive⟩ cols e.s S W (RowR.keepAll Hcl.out h) ⟨a1, n1, c1, a2, n2, c2, a3, n3, c3, rfl, rfl, rfl⟩
  have HO := Lib.hid hO
  clear E h1 hO
  obtain ⟨W0, hW0⟩ : ∃ W0, W0 = (w.alloc (.cells TC.toArray 32)).alloc (.cells (exCs (.slice A e.args.length c) e).toArray 26) := ⟨_, rfl⟩
  have HW0 := Lib.hid hW0
  have hrt : Row W0 w.heap.size 32 TC := hW0 ▸ Hrt.out
  have hre : Row W0 (w.heap.size + 1) 26 (exCs (.slice A e.args.length c) e) := hW0 ▸ Hre.out
  have hS0 : Same (fun _ => True) w W0 := hW0 ▸ HS0.out
  rw [HTC.out] at hrt
  have k0 : W0.cell? ⟨w.heap.size + 1, 0, none⟩ = some (.int .i64 e.kind) := hre.cell 0
  have k1 : W0.cell? ⟨w.heap.size + 1, 1, none⟩ = some (.string (str e.s)) := hre.cell 1
  have k2 : W0.cell? ⟨w.heap.size + 1, 2, none⟩ = some (.int .i64 e.v.kind) := hre.cell 2
  have k3 : W0.cell? ⟨w.heap.size + 1, 3, none⟩ = some (.int .i64 e.v.n) := hre.cell 3
  have k4 : W0.cell? ⟨w.heap.size + 1, 4, none⟩ = some (.string (str e.v.s)) := hre.cell 4
  have k5 : W0.cell? ⟨w.heap.size + 1, 5, none⟩ = some (.slice A e.args.length c) := hre.cell 5
  have t0 : W0.cell? ⟨w.heap.size, 0, none⟩ = some (.string (str nm)) := hrt.cell 0
  have t1 : W0.cell? ⟨w.heap.size, 1, none⟩ = some (.slice Ac cols.length cc) := hrt.cell 1
  have t2 : W0.cell? ⟨w.heap.size, 2, none⟩ = some (.int .i64 key) := hrt.cell 2
  have t3 : W0.cell? ⟨w.heap.size, 3, none⟩ = some (.int .i64 place) := hrt.cell 3
  have t4 : W0.cell? ⟨w.heap.size, 4, none⟩ = some (.int .i64 region) := hrt.cell 4
  have t5 : W0.cell? ⟨w.heap.size, 5, none⟩ = some (.slice a1 n1 c1) := hrt.cell 5
  have t6 : W0.cell? ⟨w.heap.size, 6, none⟩ = some (.slice a2 n2 c2) := hrt.cell 6
  have t7 : W0.cell? ⟨w.heap.size, 7, none⟩ = some (.slice a3 n3 c3) := hrt.cell 7
  have t8 : W0.cell? ⟨w.heap.size, 8, none⟩ = some (.int .i64 elect) := hrt.cell 8
  have t9 : W0.cell? ⟨w.heap.size, 9, none⟩ = some (.int .i64 commit) := hrt.cell 9
  have t10 : W0.cell? ⟨w.heap.size, 10, none⟩ = some (.int .i64 survive) := hrt.cell 10
  have HS := Lib.hid hS0
  have Hre := Lib.hid hre
  have Hrt := Lib.hid hrt
  have z0 := hre.lt
  have gc := gc W0 hS0
  clear hW0 hrt hS0 hre
  cases O with
  | none =>
    have E := HE.out.trans (by rw [HO.out])
    have HE := Lib.hid E
    clear E
    have gc : Calls _ _ _ _ (fun e w' => e = .returned (.int .i64 (-1)) ∧ _) := gc
    go_enter Try.func25, Try.ntmps25
    go_wp2_with (go_at_call 33; refine stopAt ?_)
    unfold Hid
    have e0 := HW0.out
    have e1 := HTC.out
    simp only [tabCs] at e1
    simp only [exCs, e1] at e0
    rw [← e0]
    clear e0 e1
    refine gc.mono ?_
    rintro e' w3 ⟨rfl, hS3⟩
    have HS3 := Lib.hid hS3
    clear hS3 gc
    go_wp2
    go_ret2
    exact NumS.mk' HE.out (HS.out.trans HS3.out)
  | some i =>
    have gc : Calls _ _ _ _ (fun e w' => e = .returned (.int .i64 (i : Int)) ∧ _) := gc
    have hi := colF_lt HO.out
    have E := HE.out.trans (by rw [HO.out])
    have HE : Hid (F = if e.args ≠ [] ∨ e.v ≠ .zero then ((0, 9) : Int × Int) else ((cols[i]?.map (·.kind)).getD 0, 0)) := Lib.hid E
    clear E
    have y1 : (0 : Int) ≤ (i : Int) := by omega
    have y2 : (i : Int) < (cols.length : Int) := by omega
    obtain ⟨Z, hZ⟩ : ∃ Z, decide (e.v ≠ .zero) = Z := ⟨_, rfl⟩
    have qz := val_runne e.v
    rw [hZ] at qz
    have HZ := Lib.hid hZ
    clear hZ
    by_cases ha : e.args = []
    · have x1 : e.args.length ≤ 0 := by rw [ha]; simp
      have x2 : ¬ (0 : Int) < (e.args.length : Int) := by omega
      have Ha := Lib.hid ha
      clear ha
      go_enter Try.func25, Try.ntmps25
      go_wp2_with (go_at_call 33; refine stopAt ?_)
      unfold Hid
      have e0 := HW0.out
      have e1 := HTC.out
      simp only [tabCs] at e1
      simp only [exCs, e1] at e0
      rw [← e0]
      clear e0 e1
      refine gc.mono ?_
      rintro e' w3 ⟨rfl, hS3⟩
      have hre3 := Hre.out.keep hS3 trivial
      have hrt3 := Hrt.out.keep hS3 trivial
      have k0 : w3.cell? ⟨w.heap.size + 1, 0, none⟩ = some (.int .i64 e.kind) := hre3.cell 0
      have k1 : w3.cell? ⟨w.heap.size + 1, 1, none⟩ = some (.string (str e.s)) := hre3.cell 1
      have k2 : w3.cell? ⟨w.heap.size + 1, 2, none⟩ = some (.int .i64 e.v.kind) := hre3.cell 2
      have k3 : w3.cell? ⟨w.heap.size + 1, 3, none⟩ = some (.int .i64 e.v.n) := hre3.cell 3
      have k4 : w3.cell? ⟨w.heap.size + 1, 4, none⟩ = some (.string (str e.v.s)) := hre3.cell 4
      have k5 : w3.cell? ⟨w.heap.size + 1, 5, none⟩ = some (.slice A e.args.length c) := hre3.cell 5
      have t1 : w3.cell? ⟨w.heap.size, 1, none⟩ = some (.slice Ac cols.length cc) := hrt3.cell 1
      obtain ⟨ad, rfl, -, d0, d1, d2⟩ := ClR.cells (RowR.keepAll Hcl.out (HS.out.trans hS3)) hi
      have hci : (cols[i]?.map (·.kind)).getD 0 = cols[i].kind := by rw [List.getElem?_eq_getElem hi]; rfl
      have Hci := Lib.hid hci
      generalize cols[i] = ci at *
      have HS3 := Lib.hid hS3
      have z1 := hre3.lt
      clear hS3 hre3 hrt3 gc hci
      cases Z
      · have E := HE.out.trans (if_neg (fun h => by
          rcases h with h | h
          · exact h Ha.out
          · have := HZ.out; simp at this; exact h this))
        rw [Hci.out] at E
        have HE := Lib.hid E
        clear E
        go_wp2
        go_ret2
        exact NumS.mk' HE.out (HS.out.trans HS3.out)
      · have E := HE.out.trans (if_pos (.inr (by have := HZ.out; simpa using this)))
        have HE := Lib.hid E
        clear E
        go_wp2
        go_ret2
        exact NumS.mk' HE.out (HS.out.trans HS3.out)
    · have x1 : 0 < e.args.length := List.length_pos_iff.2 ha
      have x2 : (0 : Int) < (e.args.length : Int) := by omega
      have E := HE.out.trans (if_pos (.inl ha))
      have HE := Lib.hid E
      clear E ha
      go_enter Try.func25, Try.ntmps25
      go_wp2_with (go_at_call 33; refine stopAt ?_)
      unfold Hid
      have e0 := HW0.out
      have e1 := HTC.out
      simp only [tabCs] at e1
      simp only [exCs, e1] at e0
      rw [← e0]
      clear e0 e1
      refine gc.mono ?_
      rintro e' w3 ⟨rfl, hS3⟩
      have hre3 := Hre.out.keep hS3 trivial
      have k0 : w3.cell? ⟨w.heap.size + 1, 0, none⟩ = some (.int .i64 e.kind) := hre3.cell 0
      have k1 : w3.cell? ⟨w.heap.size + 1, 1, none⟩ = some (.string (str e.s)) := hre3.cell 1
      have k2 : w3.cell? ⟨w.heap.size + 1, 2, none⟩ = some (.int .i64 e.v.kind) := hre3.cell 2
      have k3 : w3.cell? ⟨w.heap.size + 1, 3, none⟩ = some (.int .i64 e.v.n) := hre3.cell 3
      have k4 : w3.cell? ⟨w.heap.size + 1, 4, none⟩ = some (.string (str e.v.s)) := hre3.cell 4
      have k5 : w3.cell? ⟨w.heap.size + 1, 5, none⟩ = some (.slice A e.args.length c) := hre3.cell 5
      have HS3 := Lib.hid hS3
      have z1 := hre3.lt
      clear hS3 hre3 gc
      go_wp2
      go_ret2
      exact NumS.mk' HE.out (HS.out.trans HS3.out)

set_option maxRecDepth 100000 in
set_option maxHeartbeats 4000000 in
theorem typed_ops (u cu : Value) (t : TabT) (cols : List Clm) (e : Ex) (S : Nat → Prop) (w : World) (hv : ExR w S u e) (ht : TabR w S cu t cols) (h1 : e.kind = 3) (hsz : e.size ≤ 100000) (ih : ∀ a ∈ e.args, ∀ (u cu : Value) (w : World), ExR w S u a → TabR w S cu t cols → Calls Try.prog 25 #[tabV cu t, exV u a] w (NumS (typedF cols a) w)) :
    Calls Try.prog 25 #[tabV cu t, exV u e] w (NumS (typedF cols e) w) := by
  have hlen : e.args.length ≤ 100000 := by
    obtain ⟨k, s, v, l⟩ := e
    have h2 := sizeL_len l
    simp only [Ex.size] at hsz
    show l.length ≤ 100000
    omega
  obtain ⟨hcl, a1, n1, c1, a2, n2, c2, a3, n3, c3, q1, q2, q3⟩ := ht
  obtain ⟨Ac, cc, rfl, hcc, hcm⟩ := hcl.form
  obtain ⟨nm, key, place, region, v1, v2, v3, elect, commit, survive⟩ := t
  simp only at q1 q2 q3
  subst q1 q2 q3
  obtain ⟨A, c, rfl, hc, hm⟩ := hv.toL.form
  unfold maxLen at hm hcm
  have Ih := Lib.hid ih
  clear ih
  obtain ⟨TC, hTC⟩ : ∃ TC, TC = tabCs (.slice Ac cols.length cc) ⟨nm, key, place, region, .slice a1 n1 c1, .slice a2 n2 c2, .slice a3 n3 c3, elect, commit, survive⟩ := ⟨_, rfl⟩
  have hS0 := ((Same.refl (fun _ => True) w).alloc (.cells TC.toArray 32)).alloc (.cells (exCs (.slice A e.args.length c) e).toArray 26)
  have hrt := (Row.new w 32 TC).keep ((Same.refl (fun _ => True) _).alloc (.cells (exCs (.slice A e.args.length c) e).toArray 26)) trivial
  have hre := Row.new (w.alloc (.cells TC.toArray 32)) 26 (exCs (.slice A e.args.length c) e)
  rw [World.size_alloc] at hre
  have HS0 := Lib.hid hS0
  have Hrt := Lib.hid hrt
  have Hre := Lib.hid hre
  have HTC := Lib.hid hTC
  have Hcl := Lib.hid hcl
  have Hv := Lib.hid hv.toL
  have HK := Lib.hid (typedF_eq cols e)
  obtain ⟨F, hF⟩ : ∃ F, typedF cols e = F := ⟨_, rfl⟩
  rw [hF]
  have HF := Lib.hid hF
  clear hTC hS0 hrt hre hcl hv hF
  have E := HF.out.symm.trans (HK.out.trans (by rw [if_neg (by omega), if_neg (by omega), if_pos h1]))
  have HE := Lib.hid E
  have b1 : (e.kind == 1) = false := by rw [h1]; rfl
  have b2 : (e.kind == 2) = false := by rw [h1]; rfl
  have b3 : (e.kind == 3) = true := by rw [h1]; rfl
  clear E h1 hsz
  obtain ⟨W0, hW0⟩ : ∃ W0, W0 = (w.alloc (.cells TC.toArray 32)).alloc (.cells (exCs (.slice A e.args.length c) e).toArray 26) := ⟨_, rfl⟩
  have HW0 := Lib.hid hW0
  have hrt : Row W0 w.heap.size 32 TC := hW0 ▸ Hrt.out
  have hre : Row W0 (w.heap.size + 1) 26 (exCs (.slice A e.args.length c) e) := hW0 ▸ Hre.out
  have hS0 : Same (fun _ => True) w W0 := hW0 ▸ HS0.out
  rw [HTC.out] at hrt
  have k0 : W0.cell? ⟨w.heap.size + 1, 0, none⟩ = some (.int .i64 e.kind) := hre.cell 0
  have k1 : W0.cell? ⟨w.heap.size + 1, 1, none⟩ = some (.string (str e.s)) := hre.cell 1
  have k2 : W0.cell? ⟨w.heap.size + 1, 2, none⟩ = some (.int .i64 e.v.kind) := hre.cell 2
  have k3 : W0.cell? ⟨w.heap.size + 1, 3, none⟩ = some (.int .i64 e.v.n) := hre.cell 3
  have k4 : W0.cell? ⟨w.heap.size + 1, 4, none⟩ = some (.string (str e.v.s)) := hre.cell 4
  have k5 : W0.cell? ⟨w.heap.size + 1, 5, none⟩ = some (.slice A e.args.length c) := hre.cell 5
  have HS := Lib.hid hS0
  have Hre := Lib.hid hre
  have Hrt := Lib.hid hrt
  have z0 := hre.lt
  clear hW0 hrt hS0 hre
  go_enter Try.func25, Try.ntmps25
  go_wp2
  have e0 := HW0.out
  have e1 := HTC.out
  simp only [tabCs] at e1
  simp only [exCs, e1] at e0
  rw [← e0]
  clear e0 e1
  clear k0 k1 k2 k3 k4 k5
  go_loopw [7, 9, 10, 11, 63] (fun v _ _ _ i wr => ∃ (j : Nat) (ks : List Int), j ≤ e.args.length ∧ i = .int .i64 j ∧ ks.length = j ∧ OwnI wr W0.heap.size v ks ∧ F = typR cols e.s e.v (e.args.drop j) ks ∧ Same (fun _ => True) W0 wr) (fun _ _ _ _ i _ => e.args.length - (intOf i).toNat)
  case atStart => exact ⟨0, [], Nat.zero_le _, rfl, rfl, OwnR.nil _ _, HE.out, Same.refl _ _⟩
  case round =>
    obtain ⟨j, ks, hj, rfl, hkl, hown, hrel, hS⟩ := hrel
    have Hrel := Lib.hid hrel
    have Hown := Lib.hid hown
    have HSr := Lib.hid hS
    have Hkl := Lib.hid hkl
    have hrt := Hrt.out.keep hS trivial
    have hre := Hre.out.keep hS trivial
    obtain ⟨Ak, ck, rfl, hk1, hk2⟩ := hown.form
    have hkj : ks.length ≤ 100000 := by omega
    unfold maxLen at hk2
    clear hrel hown hkl
    by_cases hlt : j < e.args.length
    · obtain ⟨ad, uj, rfl, -, hvj, d0, d1, d2, d3, d4, d5⟩ := ExL.cells (Hv.out.keepAll (HS.out.trans hS)) hlt
      have hd := typR_step (cols := cols) (s := e.s) (v := e.v) (ks := ks) hlt
      have ihj := fun (W : World) (h1 : ExR W S uj (e.args[j]'hlt)) h2 => Ih.out (e.args[j]'hlt) (List.getElem_mem hlt) uj (.slice Ac cols.length cc) W h1 h2
      have x3 : (0 : Int) ≤ (j : Int) := by omega
      have x4 : (j : Int) < (e.args.length : Int) := by omega
      have htj : TabR wr S (.slice Ac cols.length cc) ⟨nm, key, place, region, .slice a1 n1 c1, .slice a2 n2 c2, .slice a3 n3 c3, elect, commit, survive⟩ cols := ⟨RowR.keepAll Hcl.out (HS.out.trans hS), a1, n1, c1, a2, n2, c2, a3, n3, c3, rfl, rfl, rfl⟩
      generalize e.args[j] = x at *
      have hvj : ExR wr S uj x := (ExR.iff uj x).2 hvj
      obtain ⟨Au, cu, rfl, -, -⟩ := hvj.toL.form
      have hSx := (Same.refl (fun _ => True) wr).alloc (.cells (exCs (.slice Au x.args.length cu) x).toArray 26)
      have hrtx := hrt.keep hSx trivial
      have Hvj := Lib.hid (hvj.keepAll hSx)
      have Htj := Lib.hid (htj.keepAll hSx)
      have HSx := Lib.hid hSx
      have hab := World.block_lt_of_cell? wr _ d0
      have t0 : wr.cell? ⟨w.heap.size, 0, none⟩ = some (.string (str nm)) := hrt.cell 0
      have t1 : wr.cell? ⟨w.heap.size, 1, none⟩ = some (.slice Ac cols.length cc) := hrt.cell 1
      have t2 : wr.cell? ⟨w.heap.size, 2, none⟩ = some (.int .i64 key) := hrt.cell 2
      have t3 : wr.cell? ⟨w.heap.size, 3, none⟩ = some (.int .i64 place) := hrt.cell 3
      have t4 : wr.cell? ⟨w.heap.size, 4, none⟩ = some (.int .i64 region) := hrt.cell 4
      have t5 : wr.cell? ⟨w.heap.size, 5, none⟩ = some (.slice a1 n1 c1) := hrt.cell 5
      have t6 : wr.cell? ⟨w.heap.size, 6, none⟩ = some (.slice a2 n2 c2) := hrt.cell 6
      have t7 : wr.cell? ⟨w.heap.size, 7, none⟩ = some (.slice a3 n3 c3) := hrt.cell 7
      have t8 : wr.cell? ⟨w.heap.size, 8, none⟩ = some (.int .i64 elect) := hrt.cell 8
      have t9 : wr.cell? ⟨w.heap.size, 9, none⟩ = some (.int .i64 commit) := hrt.cell 9
      have t10 : wr.cell? ⟨w.heap.size, 10, none⟩ = some (.int .i64 survive) := hrt.cell 10
      have z1 := hrt.lt
      obtain ⟨R, hR⟩ : ∃ R, typedF cols x = R := ⟨_, rfl⟩
      rw [hR] at ihj hd
      have Hd := Lib.hid hd
      clear hd hvj hSx hR hS hrt hre hrtx htj
      go_wp2_with (go_at_call 25; refine stopAt ?_)
      unfold Hid
      refine (ihj _ Hvj.out Htj.out).mono ?_
      rintro e' w3 ⟨rfl, hS3⟩
      have HS3 := Lib.hid (HSx.out.trans hS3)
      clear hS3 ihj t0 t1 t2 t3 t4 t5 t6 t7 t8 t9 t10 d0 d1 d2 d3 d4 d5 hab
      obtain ⟨rk, re⟩ := R
      by_cases h0 : re = 0
      · have b4 : (re != 0) = false := by simpa using h0
        have K := Hrel.out.trans (Hd.out.trans (if_neg (by simpa using h0)))
        have HKK := Lib.hid K
        clear K h0
        go_wp2_with (at_builtin; refine stopAt ?_)
        unfold Hid
        have hown3 := Hown.out.keepAll HS3.out
        refine wpList_appR1 TInt (fun _ => rfl) (fun x u hu => by simp only [List.mem_cons, List.not_mem_nil, or_false] at hu; rw [hu]; rfl) rfl (.tmp 76) (.tmp 78) rfl (f := fun k => [Value.int .i64 k]) (B := W0.heap.size) (v := .slice Ak ks.length ck) (l := ks) (c := rk) rfl rfl rfl hown3 (Nat.le_trans HSr.out.size HS3.out.size) (by simp only [maxLen]; omega) (by omega) ?_
        intro v' w4 hown4 hS4
        have Hown4 := Lib.hid hown4
        have HS4 := Lib.hid hS4
        clear hown4 hS4 hown3
        go_wp2
        go_roundw
        case rel =>
          refine ⟨j + 1, ks ++ [rk], by omega, by go_num, by simp [Hkl.out], Hown4.out, HKK.out, ?_⟩
          exact ((HSr.out.trans HS3.out).trans' HS4.out fun i hi _ => hi)
        case measure => simp [intOf]; omega
      · have b4 : (re != 0) = true := by simpa using h0
        have K := Hrel.out.trans (Hd.out.trans (if_pos (by simpa using h0)))
        have HKK := Lib.hid K
        clear K h0
        go_wp2
        go_ret2
        exact NumS.mk' HKK.out (HS.out.trans (HSr.out.trans HS3.out))
    · have K := Hrel.out.trans (by rw [List.drop_of_length_le (by omega), typR_end])
      have HKK : Hid (F = opFin e.s e.v ks) := Lib.hid K
      have k0 : wr.cell? ⟨w.heap.size + 1, 0, none⟩ = some (.int .i64 e.kind) := hre.cell 0
      have k1 : wr.cell? ⟨w.heap.size + 1, 1, none⟩ = some (.string (str e.s)) := hre.cell 1
      have k2 : wr.cell? ⟨w.heap.size + 1, 2, none⟩ = some (.int .i64 e.v.kind) := hre.cell 2
      have k3 : wr.cell? ⟨w.heap.size + 1, 3, none⟩ = some (.int .i64 e.v.n) := hre.cell 3
      have k4 : wr.cell? ⟨w.heap.size + 1, 4, none⟩ = some (.string (str e.v.s)) := hre.cell 4
      have k5 : wr.cell? ⟨w.heap.size + 1, 5, none⟩ = some (.slice A e.args.length c) := hre.cell 5
      have z1 := hre.lt
      obtain ⟨Z, hZ⟩ : ∃ Z, decide (e.v ≠ .zero) = Z := ⟨_, rfl⟩
      have qz := val_runne e.v
      rw [hZ] at qz
      have HZ := Lib.hid hZ
      have go := fun W h => exoperator_any (.slice Ak ks.length ck) e.s ks (fun k => W0.heap.size ≤ k) W h
      clear K hZ hre hrt hS
      cases Z
      · have K := HKK.out.trans (if_neg (by have := HZ.out; simpa using this))
        have HKK := Lib.hid K
        clear K
        go_wp2_with (go_at_call 34; refine stopAt ?_)
        unfold Hid
        refine (go _ Hown.out.inr).mono ?_
        rintro e' w3 ⟨rfl, hS3⟩
        have HS3 := Lib.hid hS3
        clear hS3 go
        go_wp2
        go_ret2
        exact NumS.mk' HKK.out (HS.out.trans (HSr.out.trans HS3.out))
      · have K := HKK.out.trans (if_pos (by have := HZ.out; simpa using this))
        have HKK := Lib.hid K
        clear K go
        go_wp2
        go_ret2
        exact NumS.mk' HKK.out (HS.out.trans HSr.out)
/-- The program's typed. -/
theorem extyped_any (t : TabT) (cols : List Clm) (S : Nat → Prop) : ∀ (e : Ex), e.size ≤ 100000 → ∀ (u cu : Value) (w : World), ExR w S u e → TabR w S cu t cols →
    Calls Try.prog 25 #[tabV cu t, exV u e] w (NumS (typedF cols e) w) := by
  apply Ex.ind2 (P := fun e => e.size ≤ 100000 → ∀ (u cu : Value) (w : World), ExR w S u e → TabR w S cu t cols → Calls Try.prog 25 #[tabV cu t, exV u e] w (NumS (typedF cols e) w))
  intro e ih hsz u cu w hv ht
  by_cases h1 : e.kind = 1
  · exact typed_value u cu t cols e S w hv ht h1
  by_cases h2 : e.kind = 2
  · exact typed_name u cu t cols e S w hv ht h2
  by_cases h3 : e.kind = 3
  · exact typed_ops u cu t cols e S w hv ht h3 hsz fun a ha => ih a ha (by
      have := size_mem ha
      obtain ⟨k, s, v, l⟩ := e
      simp only [Ex.size] at hsz
      exact Nat.le_trans this (by show sizeL l ≤ _; omega))
  · exact typed_other u cu t cols e S w hv ht h1 h2 h3
end Go.Proofs.Ytakbikibahhepaa
