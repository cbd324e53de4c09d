/-
  The walks of the document's kindOp, kind and Type.
-/
import Derived.Test.YtakbikibahhepaaExR1
set_option linter.unusedSimpArgs false
set_option linter.unusedVariables false
namespace Go.Proofs.Ytakbikibahhepaa
open Go.RowKit

/-- What kindOp finds wrong behind its arguments. -/
def badK (o : Opk) (k : Int) : Bool := (logicB o && (!decide (k = 1) && !decide (k = 0))) || (arithB o && (!decide (k = 2) && !decide (k = 0)))
theorem badK_all (o : Opk) (l : List Int) : ((logicB o && !kAll l 1) || (arithB o && !kAll l 2)) = l.any (badK o) := by
  induction l with
  | nil => simp [kAll]
  | cons a l ih =>
    simp only [List.any_cons, ← ih, badK, kAll, List.all_cons]
    cases logicB o <;> cases arithB o <;> simp [kAll] <;> by_cases h1 : a = 1 <;> by_cases h2 : a = 2 <;> by_cases h0 : a = 0 <;> simp [h1, h2, h0] <;> try omega
theorem opFin_bad {s : List UInt8} {v : Val} {ks : List Int} (h : argsF (opk s) = 0 ∨ argsF (opk s) ≠ ks.length ∨ v ≠ .zero) : opFin s v ks = (0, 9) := by
  unfold opFin
  split
  · rfl
  · rename_i hv
    rw [oper_kindOp]
    unfold kindOpF
    rw [if_pos]
    rcases h with h | h | h
    · exact .inl h
    · exact .inr h
    · exact absurd h hv
theorem opFin_any {s : List UInt8} {v : Val} {ks : List Int} (h0 : argsF (opk s) ≠ 0) (h1 : argsF (opk s) = ks.length) (hv : v = .zero) : opFin s v ks = if ks.any (badK (opk s)) then (0, 15) else if arithB (opk s) then (2, 0) else if !logicB (opk s) && (decide (ks.length = 2) && !pairB ks) then (0, 15) else (1, 0) := by
  unfold opFin
  rw [if_neg (by simp [hv]), oper_kindOp]
  unfold kindOpF
  rw [if_neg (by rintro (h | h); exact h0 h; exact h h1), badK_all]
theorem any_drop {l : List Int} {f : Int → Bool} {j : Nat} (h : j < l.length) : (l.drop j).any f = (f l[j] || (l.drop (j + 1)).any f) := by rw [drop_cons h, List.any_cons]
set_option maxRecDepth 100000 in
set_option maxHeartbeats 16000000 in
theorem kindop_any (u cu : Value) (t : TabT) (cols : List Clm) (e : Ex) (S : Nat → Prop) (w : World) (hv : ExR w S u e) (ht : TabR w S cu t cols) (hsz : e.size ≤ 100000) (ih : ∀ a ∈ e.args, ∀ (u cu : Value) (w : World), ExR w S u a → TabR w S cu t cols → Calls Try.prog 27 #[tabV cu t, exV u a] w (NumS (typedF cols a) w)) :
    Calls Try.prog 37 #[tabV cu t, exV u e] w (NumS (typR cols e.s e.v e.args []) w) := by
  have hlen : e.args.length ≤ 100000 := by
    obtain ⟨k, s, v, l⟩ := e
    have h2 := sizeL_len l
    simp only [Ex.size] at hsz
    show l.length ≤ 100000
    omega
  obtain ⟨hcl, a1, n1, c1, a2, n2, c2, a3, n3, c3, q1, q2, q3⟩ := ht
  obtain ⟨Ac, cc, rfl, hcc, hcm⟩ := hcl.form
  obtain ⟨nm, key, place, region, v1, v2, v3, elect, commit, survive⟩ := t
  simp only at q1 q2 q3
  subst q1 q2 q3
  obtain ⟨A, c, rfl, hc, hm⟩ := hv.toL.form
  unfold maxLen at hm hcm
  have Ih := Lib.hid ih
  clear ih
  obtain ⟨TC, hTC⟩ : ∃ TC, TC = tabCs (.slice Ac cols.length cc) ⟨nm, key, place, region, .slice a1 n1 c1, .slice a2 n2 c2, .slice a3 n3 c3, elect, commit, survive⟩ := ⟨_, rfl⟩
  have hS0 := ((Same.refl (fun _ => True) w).alloc (.cells TC.toArray 32)).alloc (.cells (exCs (.slice A e.args.length c) e).toArray 26)
  have hrt := (Row.new w 32 TC).keep ((Same.refl (fun _ => True) _).alloc (.cells (exCs (.slice A e.args.length c) e).toArray 26)) trivial
  have hre := Row.new (w.alloc (.cells TC.toArray 32)) 26 (exCs (.slice A e.args.length c) e)
  rw [World.size_alloc] at hre
  have HS0 := Lib.hid hS0
  have Hrt := Lib.hid hrt
  have Hre := Lib.hid hre
  have HTC := Lib.hid hTC
  have Hcl := Lib.hid hcl
  have Hv := Lib.hid hv.toL
  obtain ⟨F, hF⟩ : ∃ F, typR cols e.s e.v e.args [] = F := ⟨_, rfl⟩
  rw [hF]
  have HF := Lib.hid hF
  clear hTC hS0 hrt hre hcl hv hF
  obtain ⟨W0, hW0⟩ : ∃ W0, W0 = (w.alloc (.cells TC.toArray 32)).alloc (.cells (exCs (.slice A e.args.length c) e).toArray 26) := ⟨_, rfl⟩
  have HW0 := Lib.hid hW0
  have hrt : Row W0 w.heap.size 32 TC := hW0 ▸ Hrt.out
  have hre : Row W0 (w.heap.size + 1) 26 (exCs (.slice A e.args.length c) e) := hW0 ▸ Hre.out
  have hS0 : Same (fun _ => True) w W0 := hW0 ▸ HS0.out
  rw [HTC.out] at hrt
  have k0 : W0.cell? ⟨w.heap.size + 1, 0, none⟩ = some (.int .i64 e.kind) := hre.cell 0
  have k1 : W0.cell? ⟨w.heap.size + 1, 1, none⟩ = some (.string (str e.s)) := hre.cell 1
  have k2 : W0.cell? ⟨w.heap.size + 1, 2, none⟩ = some (.int .i64 e.v.kind) := hre.cell 2
  have k3 : W0.cell? ⟨w.heap.size + 1, 3, none⟩ = some (.int .i64 e.v.n) := hre.cell 3
  have k4 : W0.cell? ⟨w.heap.size + 1, 4, none⟩ = some (.string (str e.v.s)) := hre.cell 4
  have k5 : W0.cell? ⟨w.heap.size + 1, 5, none⟩ = some (.slice A e.args.length c) := hre.cell 5
  have HS := Lib.hid hS0
  have Hre := Lib.hid hre
  have Hrt := Lib.hid hrt
  have z0 := hre.lt
  clear hW0 hrt hS0 hre hsz
  go_enter Try.func37, Try.ntmps37
  go_wp2
  have e0 := HW0.out
  have e1 := HTC.out
  simp only [tabCs] at e1
  simp only [exCs, e1] at e0
  rw [← e0]
  clear e0 e1
  clear k0 k1 k2 k3 k4 k5
  go_loopw [6, 7, 8, 9] (fun v i _ _ wr => ∃ (j : Nat) (ks : List Int), j ≤ e.args.length ∧ i = .int .i64 j ∧ ks.length = j ∧ OwnI wr W0.heap.size v ks ∧ F = typR cols e.s e.v (e.args.drop j) ks ∧ Same (fun _ => True) W0 wr) (fun _ i _ _ _ => e.args.length - (intOf i).toNat)
  case atStart => exact ⟨0, [], Nat.zero_le _, rfl, rfl, OwnR.nil _ _, HF.out.symm, Same.refl _ _⟩
  case round =>
    obtain ⟨j, ks, hj, rfl, hkl, hown, hrel, hS⟩ := hrel
    have Hrel := Lib.hid hrel
    have Hown := Lib.hid hown
    have HSr := Lib.hid hS
    have Hkl := Lib.hid hkl
    have hrt := Hrt.out.keep hS trivial
    have hre := Hre.out.keep hS trivial
    obtain ⟨Ak, ck, rfl, hk1, hk2⟩ := hown.form
    have hkj : ks.length ≤ 100000 := by omega
    unfold maxLen at hk2
    clear hrel hown hkl
    have k0 : wr.cell? ⟨w.heap.size + 1, 0, none⟩ = some (.int .i64 e.kind) := hre.cell 0
    have k1 : wr.cell? ⟨w.heap.size + 1, 1, none⟩ = some (.string (str e.s)) := hre.cell 1
    have k2 : wr.cell? ⟨w.heap.size + 1, 2, none⟩ = some (.int .i64 e.v.kind) := hre.cell 2
    have k3 : wr.cell? ⟨w.heap.size + 1, 3, none⟩ = some (.int .i64 e.v.n) := hre.cell 3
    have k4 : wr.cell? ⟨w.heap.size + 1, 4, none⟩ = some (.string (str e.v.s)) := hre.cell 4
    have k5 : wr.cell? ⟨w.heap.size + 1, 5, none⟩ = some (.slice A e.args.length c) := hre.cell 5
    have z1 := hre.lt
    by_cases hlt : j < e.args.length
    · obtain ⟨ad, uj, rfl, -, hvj, d0, d1, d2, d3, d4, d5⟩ := ExL.cells (Hv.out.keepAll (HS.out.trans hS)) hlt
      have hd := typR_step (cols := cols) (s := e.s) (v := e.v) (ks := ks) hlt
      have ihj := fun (W : World) (h1 : ExR W S uj (e.args[j]'hlt)) h2 => Ih.out (e.args[j]'hlt) (List.getElem_mem hlt) uj (.slice Ac cols.length cc) W h1 h2
      have x3 : (0 : Int) ≤ (j : Int) := by omega
      have x4 : (j : Int) < (e.args.length : Int) := by omega
      have htj : TabR wr S (.slice Ac cols.length cc) ⟨nm, key, place, region, .slice a1 n1 c1, .slice a2 n2 c2, .slice a3 n3 c3, elect, commit, survive⟩ cols := ⟨RowR.keepAll Hcl.out (HS.out.trans hS), a1, n1, c1, a2, n2, c2, a3, n3, c3, rfl, rfl, rfl⟩
      generalize e.args[j] = x at *
      have hvj : ExR wr S uj x := (ExR.iff uj x).2 hvj
      obtain ⟨Au, cu, rfl, -, -⟩ := hvj.toL.form
      have Hvj := Lib.hid hvj
      have Htj := Lib.hid htj
      have hab := World.block_lt_of_cell? wr _ d0
      have t0 : wr.cell? ⟨w.heap.size, 0, none⟩ = some (.string (str nm)) := hrt.cell 0
      have t1 : wr.cell? ⟨w.heap.size, 1, none⟩ = some (.slice Ac cols.length cc) := hrt.cell 1
      have t2 : wr.cell? ⟨w.heap.size, 2, none⟩ = some (.int .i64 key) := hrt.cell 2
      have t3 : wr.cell? ⟨w.heap.size, 3, none⟩ = some (.int .i64 place) := hrt.cell 3
      have t4 : wr.cell? ⟨w.heap.size, 4, none⟩ = some (.int .i64 region) := hrt.cell 4
      have t5 : wr.cell? ⟨w.heap.size, 5, none⟩ = some (.slice a1 n1 c1) := hrt.cell 5
      have t6 : wr.cell? ⟨w.heap.size, 6, none⟩ = some (.slice a2 n2 c2) := hrt.cell 6
      have t7 : wr.cell? ⟨w.heap.size, 7, none⟩ = some (.slice a3 n3 c3) := hrt.cell 7
      have t8 : wr.cell? ⟨w.heap.size, 8, none⟩ = some (.int .i64 elect) := hrt.cell 8
      have t9 : wr.cell? ⟨w.heap.size, 9, none⟩ = some (.int .i64 commit) := hrt.cell 9
      have t10 : wr.cell? ⟨w.heap.size, 10, none⟩ = some (.int .i64 survive) := hrt.cell 10
      obtain ⟨R, hR⟩ : ∃ R, typedF cols x = R := ⟨_, rfl⟩
      rw [hR] at ihj hd
      obtain ⟨rk, re⟩ := R
      have Hd := Lib.hid hd
      clear hd hvj hR hS hrt hre htj
      go_wp2
      refine wp_region_eq_lit (vs := [(tabV (.slice Ac cols.length cc) ⟨nm, key, place, region, .slice a1 n1 c1, .slice a2 n2 c2, .slice a3 n3 c3, elect, commit, survive⟩), (.pointer (some ⟨w.heap.size + 1, 5, none⟩)), (.slice (some ad) e.args.length c), (.int .i64 j), (.pointer (some (ad.add (j * 6)))), (exV (.slice Au x.args.length cu) x), (.tuple #[.int .i64 rk, .int .i64 re]), (.tuple #[.int .i64 rk, .int .i64 re]), (.int .i64 rk), (.int .i64 re), (.int .i64 rk), (.int .i64 re)]) (by kernel_rfl) (by kernel_rfl) rfl rfl ?_ ?_
      · refine ⟨?_, ?_, ?_, ?_, ?_, ?_, ?_, ?_, ?_, ?_, ?_, ?_, trivial⟩
        · intro ac wc hs hd hz hf hw K hK
          have e0 : ac.eval (.tmp 2) = (.pointer (some ⟨w.heap.size, 0, none⟩)) := hf 2 rfl
          have m0 : wc.cell? ⟨w.heap.size, 0, none⟩ = some (.string (str nm)) := hs.cell (p := ⟨w.heap.size, 0, none⟩) trivial t0
          have m1 : wc.cell? ⟨w.heap.size, 1, none⟩ = some (.slice Ac cols.length cc) := hs.cell (p := ⟨w.heap.size, 1, none⟩) trivial t1
          have m2 : wc.cell? ⟨w.heap.size, 2, none⟩ = some (.int .i64 key) := hs.cell (p := ⟨w.heap.size, 2, none⟩) trivial t2
          have m3 : wc.cell? ⟨w.heap.size, 3, none⟩ = some (.int .i64 place) := hs.cell (p := ⟨w.heap.size, 3, none⟩) trivial t3
          have m4 : wc.cell? ⟨w.heap.size, 4, none⟩ = some (.int .i64 region) := hs.cell (p := ⟨w.heap.size, 4, none⟩) trivial t4
          have m5 : wc.cell? ⟨w.heap.size, 5, none⟩ = some (.slice a1 n1 c1) := hs.cell (p := ⟨w.heap.size, 5, none⟩) trivial t5
          have m6 : wc.cell? ⟨w.heap.size, 6, none⟩ = some (.slice a2 n2 c2) := hs.cell (p := ⟨w.heap.size, 6, none⟩) trivial t6
          have m7 : wc.cell? ⟨w.heap.size, 7, none⟩ = some (.slice a3 n3 c3) := hs.cell (p := ⟨w.heap.size, 7, none⟩) trivial t7
          have m8 : wc.cell? ⟨w.heap.size, 8, none⟩ = some (.int .i64 elect) := hs.cell (p := ⟨w.heap.size, 8, none⟩) trivial t8
          have m9 : wc.cell? ⟨w.heap.size, 9, none⟩ = some (.int .i64 commit) := hs.cell (p := ⟨w.heap.size, 9, none⟩) trivial t9
          have m10 : wc.cell? ⟨w.heap.size, 10, none⟩ = some (.int .i64 survive) := hs.cell (p := ⟨w.heap.size, 10, none⟩) trivial t10
          clear hd hz hf hw
          simp only [Region.wanted, if_true, Oper.wp, execOp, resolve, List.map_toArray, List.map_cons, List.map_nil, Option.map_some, Option.map_none, e0]
          go_simp
          exact hK _ _ rfl (Same.refl _ _)
        · intro ac wc hs hd hz hf hw K hK
          have e0 : ac.eval (.tmp 3) = (.pointer (some ⟨w.heap.size + 1, 0, none⟩)) := hf 3 rfl
          clear hd hz hf hw
          simp only [Region.wanted, if_true, Oper.wp, execOp, resolve, List.map_toArray, List.map_cons, List.map_nil, Option.map_some, Option.map_none, e0]
          go_simp
          exact hK _ _ rfl (Same.refl _ _)
        · intro ac wc hs hd hz hf hw K hK
          have e0 : ac.eval (.tmp 20) = (.pointer (some ⟨w.heap.size + 1, 5, none⟩)) := hw 1 rfl
          have m0 : wc.cell? ⟨w.heap.size + 1, 5, none⟩ = some (.slice (some ad) e.args.length c) := hs.cell (p := ⟨w.heap.size + 1, 5, none⟩) trivial k5
          clear hd hz hf hw
          simp only [Region.wanted, if_true, Oper.wp, execOp, resolve, List.map_toArray, List.map_cons, List.map_nil, Option.map_some, Option.map_none, e0]
          go_simp
          exact hK _ _ rfl (Same.refl _ _)
        · intro ac wc hs hd hz hf hw K hK
          have e0 : ac.eval (.tmp 7) = (.int .i64 j) := hf 7 rfl
          clear hd hz hf hw
          simp only [Region.wanted, if_true, Oper.wp, execOp, resolve, List.map_toArray, List.map_cons, List.map_nil, Option.map_some, Option.map_none, e0]
          go_simp
          exact hK _ _ rfl (Same.refl _ _)
        · intro ac wc hs hd hz hf hw K hK
          have e0 : ac.eval (.tmp 21) = (.slice (some ad) e.args.length c) := hw 2 rfl
          have e1 : ac.eval (.tmp 22) = (.int .i64 j) := hw 3 rfl
          clear hd hz hf hw
          simp only [Region.wanted, if_true, Oper.wp, execOp, resolve, List.map_toArray, List.map_cons, List.map_nil, Option.map_some, Option.map_none, e0, e1]
          go_simp
          exact hK _ _ rfl (Same.refl _ _)
        · intro ac wc hs hd hz hf hw K hK
          have e0 : ac.eval (.tmp 23) = (.pointer (some (ad.add (j * 6)))) := hw 4 rfl
          have m0 : wc.cell? (ad.add (j * 6)) = some (.int .i64 x.kind) := hs.cell (p := (ad.add (j * 6))) trivial d0
          have m1 : wc.cell? ⟨(ad.add (j * 6)).block, (ad.add (j * 6)).off + 1, none⟩ = some (.string (str x.s)) := hs.cell (p := ⟨(ad.add (j * 6)).block, (ad.add (j * 6)).off + 1, none⟩) trivial d1
          have m2 : wc.cell? ⟨(ad.add (j * 6)).block, (ad.add (j * 6)).off + 2, none⟩ = some (.int .i64 x.v.kind) := hs.cell (p := ⟨(ad.add (j * 6)).block, (ad.add (j * 6)).off + 2, none⟩) trivial d2
          have m3 : wc.cell? ⟨(ad.add (j * 6)).block, (ad.add (j * 6)).off + 3, none⟩ = some (.int .i64 x.v.n) := hs.cell (p := ⟨(ad.add (j * 6)).block, (ad.add (j * 6)).off + 3, none⟩) trivial d3
          have m4 : wc.cell? ⟨(ad.add (j * 6)).block, (ad.add (j * 6)).off + 4, none⟩ = some (.string (str x.v.s)) := hs.cell (p := ⟨(ad.add (j * 6)).block, (ad.add (j * 6)).off + 4, none⟩) trivial d4
          have m5 : wc.cell? ⟨(ad.add (j * 6)).block, (ad.add (j * 6)).off + 5, none⟩ = some (.slice Au x.args.length cu) := hs.cell (p := ⟨(ad.add (j * 6)).block, (ad.add (j * 6)).off + 5, none⟩) trivial d5
          clear hd hz hf hw
          simp only [Region.wanted, if_true, Oper.wp, execOp, resolve, List.map_toArray, List.map_cons, List.map_nil, Option.map_some, Option.map_none, e0]
          go_simp
          exact hK _ _ rfl (Same.refl _ _)
        · intro ac wc hs hd hz hf hw K hK
          have e0 : ac.eval (.tmp 19) = (tabV (.slice Ac cols.length cc) ⟨nm, key, place, region, .slice a1 n1 c1, .slice a2 n2 c2, .slice a3 n3 c3, elect, commit, survive⟩) := hw 0 rfl
          have e1 : ac.eval (.tmp 24) = (exV (.slice Au x.args.length cu) x) := hw 5 rfl
          clear hd hz hf hw
          simp only [Region.wanted, if_true, Oper.wp, execOp, resolve, List.map_toArray, List.map_cons, List.map_nil, Option.map_some, Option.map_none, e0, e1]
          go_simp
          refine (ihj wc (Hvj.out.keepAll hs) (Htj.out.keepAll hs)).mono ?_
          rintro e wd ⟨rfl, hs2⟩
          exact hK _ _ rfl hs2
        · intro ac wc hs hd hz hf hw K hK
          have e0 : ac.eval (.tmp 25) = (.tuple #[.int .i64 rk, .int .i64 re]) := hw 6 rfl
          clear hd hz hf hw
          simp only [Region.wanted, if_true, Oper.wp, execOp, resolve, List.map_toArray, List.map_cons, List.map_nil, Option.map_some, Option.map_none, e0]
          go_simp
          exact hK _ _ rfl (Same.refl _ _)
        · intro ac wc hs hd hz hf hw K hK
          have e0 : ac.eval (.tmp 18) = (.tuple #[.int .i64 rk, .int .i64 re]) := hw 7 rfl
          clear hd hz hf hw
          simp only [Region.wanted, if_true, Oper.wp, execOp, resolve, List.map_toArray, List.map_cons, List.map_nil, Option.map_some, Option.map_none, e0]
          go_simp
          exact hK _ _ rfl (Same.refl _ _)
        · intro ac wc hs hd hz hf hw K hK
          have e0 : ac.eval (.tmp 18) = (.tuple #[.int .i64 rk, .int .i64 re]) := hw 7 rfl
          clear hd hz hf hw
          simp only [Region.wanted, if_true, Oper.wp, execOp, resolve, List.map_toArray, List.map_cons, List.map_nil, Option.map_some, Option.map_none, e0]
          go_simp
          exact hK _ _ rfl (Same.refl _ _)
        · intro ac wc hs hd hz hf hw K hK
          have e0 : ac.eval (.tmp 26) = (.int .i64 rk) := hw 8 rfl
          clear hd hz hf hw
          simp only [Region.wanted, if_true, Oper.wp, execOp, resolve, List.map_toArray, List.map_cons, List.map_nil, Option.map_some, Option.map_none, e0]
          go_simp
          exact hK _ _ rfl (Same.refl _ _)
        · intro ac wc hs hd hz hf hw K hK
          have e0 : ac.eval (.tmp 27) = (.int .i64 re) := hw 9 rfl
          clear hd hz hf hw
          simp only [Region.wanted, if_true, Oper.wp, execOp, resolve, List.map_toArray, List.map_cons, List.map_nil, Option.map_some, Option.map_none, e0]
          go_simp
          exact hK _ _ rfl (Same.refl _ _)
      · intro w3 hS3
        simp only [putAll, Act.put, List.setIfInBounds_toArray, List.set_cons_succ, List.set_cons_zero]
        have HS3 := Lib.hid hS3
        clear hS3 ihj k0 k1 k2 k3 k4 k5 t0 t1 t2 t3 t4 t5 t6 t7 t8 t9 t10 d0 d1 d2 d3 d4 d5 hab
        by_cases h0 : re = 0
        · have b4 : (re != 0) = false := by simpa using h0
          have K := Hrel.out.trans (Hd.out.trans (if_neg (by simpa using h0)))
          have HKK := Lib.hid K
          clear K h0
          go_wp2_with (at_builtin; refine stopAt ?_)
          unfold Hid
          have hown3 := Hown.out.keepAll HS3.out
          refine wpList_appR1 TInt (fun _ => rfl) (fun x u hu => by simp only [List.mem_cons, List.not_mem_nil, or_false] at hu; rw [hu]; rfl) rfl (.tmp 31) (.tmp 33) rfl (f := fun k => [Value.int .i64 k]) (B := W0.heap.size) (v := .slice Ak ks.length ck) (l := ks) (c := rk) rfl rfl rfl hown3 (Nat.le_trans HSr.out.size HS3.out.size) (by simp only [maxLen]; omega) (by omega) ?_
          intro v' w4 hown4 hS4
          have Hown4 := Lib.hid hown4
          have HS4 := Lib.hid hS4
          clear hown4 hS4 hown3
          go_wp2
          go_roundw
          case rel =>
            refine ⟨j + 1, ks ++ [rk], by omega, by go_num, by simp [Hkl.out], Hown4.out, HKK.out, ?_⟩
            exact ((HSr.out.trans HS3.out).trans' HS4.out fun i hi _ => hi)
          case measure => simp [intOf]; omega
        · have b4 : (re != 0) = true := by simpa using h0
          have K := Hrel.out.trans (Hd.out.trans (if_pos (by simpa using h0)))
          have HKK := Lib.hid K
          clear K h0
          go_wp2
          go_ret2
          exact NumS.mk' HKK.out (HS.out.trans (HSr.out.trans HS3.out))
    · have K := Hrel.out.trans (by rw [List.drop_of_length_le (by omega), typR_end])
      have HKK : Hid (F = opFin e.s e.v ks) := Lib.hid K
      have x9 : (e.args.length : Int) ≤ (j : Int) := by omega
      have ga := fun W => refArgs_any e.s W
      have gl := fun W => reflogic_any e.s W
      have gr := fun W => refarith_any e.s W
      have hin := Hown.out.inr
      have Hin := Lib.hid hin
      have HbK := Lib.hid (fun (h0 : argsF (opk e.s) = 0 ∨ argsF (opk e.s) ≠ ks.length ∨ e.v ≠ .zero) => K.trans (opFin_bad h0))
      have HgK := Lib.hid (fun (h0 : argsF (opk e.s) ≠ 0) (h1 : argsF (opk e.s) = ks.length) (h2 : e.v = .zero) => K.trans (opFin_any h0 h1 h2))
      obtain ⟨NA, hNA⟩ : ∃ NA, argsF (opk e.s) = NA := ⟨_, rfl⟩
      obtain ⟨LG, hLG⟩ : ∃ LG, logicB (opk e.s) = LG := ⟨_, rfl⟩
      obtain ⟨AR, hAR⟩ : ∃ AR, arithB (opk e.s) = AR := ⟨_, rfl⟩
      have HbE := Lib.hid (fun k => show badK (opk e.s) k = ((LG && (!decide (k = 1) && !decide (k = 0))) || (AR && (!decide (k = 2) && !decide (k = 0)))) by unfold badK; rw [hLG, hAR])
      rw [hNA] at ga HbK HgK
      rw [hLG] at gl HgK
      rw [hAR] at gr HgK
      obtain ⟨Z, hZ⟩ : ∃ Z, decide (e.v ≠ .zero) = Z := ⟨_, rfl⟩
      have qz := val_runne e.v
      rw [hZ] at qz
      have HZ := Lib.hid hZ
      clear K hZ hre hrt hS hNA hLG hAR hin
      have CA : ∀ W, Calls Try.prog 49 #[.string (str e.s)] W (fun e w' => e = .returned (.int .i64 (NA : Nat)) ∧ W = w') := ga
      by_cases hA0 : NA = 0
      · have E := HbK.out (.inl hA0)
        have HE := Lib.hid E
        have b5 : ((NA : Int) == 0) = true := by simp; omega
        clear E hA0
        go_wp2_with (go_at_call 49; refine (CA _).mono ?_; rintro e' w' ⟨rfl, rfl⟩)
        go_ret2
        exact NumS.mk' HE.out (HS.out.trans HSr.out)
      have b5 : ((NA : Int) == 0) = false := by simp; omega
      by_cases hA1 : NA = ks.length
      rotate_left 1
      · have E := HbK.out (.inr (.inl hA1))
        have HE := Lib.hid E
        have b6 : ((NA : Int) != (ks.length : Int)) = true := by simp; omega
        have b7 : (NA != ks.length) = true := by simpa using hA1
        clear E hA0 hA1
        go_wp2_with (go_at_call 49; refine (CA _).mono ?_; rintro e' w' ⟨rfl, rfl⟩)
        go_ret2
        exact NumS.mk' HE.out (HS.out.trans HSr.out)
      have b6 : ((NA : Int) != (ks.length : Int)) = false := by simp; omega
      have b7 : (NA != ks.length) = false := by simpa using hA1
      cases Z
      rotate_left 1
      · have E := HbK.out (.inr (.inr (by have := HZ.out; simpa using this)))
        have HE := Lib.hid E
        clear E hA0 hA1
        go_wp2_with (go_at_call 49; refine (CA _).mono ?_; rintro e' w' ⟨rfl, rfl⟩)
        go_ret2
        exact NumS.mk' HE.out (HS.out.trans HSr.out)
      have E := HgK.out hA0 hA1 (by have := HZ.out; simpa using this)
      have HE := Lib.hid E
      clear E hA0 hA1
      go_wp2_with (go_at_call 49; refine (CA _).mono ?_; rintro e' w' ⟨rfl, rfl⟩)
      obtain ⟨fk, hfk⟩ : ∃ fk, badK (opk e.s) = fk := ⟨_, rfl⟩
      rw [hfk] at HbE HE
      clear hfk HbK HgK CA ga qz
      go_loop [10] (fun i => ∃ m : Nat, m ≤ ks.length ∧ i = .int .i64 m ∧ ks.any fk = (ks.drop m).any fk) (fun i => ks.length - (intOf i).toNat)
      case atStart => exact ⟨0, Nat.zero_le _, rfl, rfl⟩
      case round =>
        obtain ⟨m, hm2, rfl, hrel⟩ := hrel
        have Hrl := Lib.hid hrel
        clear hrel
        by_cases hlt2 : m < ks.length
        · obtain ⟨am, rfl, -, hcell⟩ := Hin.out.at_ hlt2
          have hd := any_drop (f := fk) hlt2
          have y1 : (0 : Int) ≤ (m : Int) := by omega
          have y2 : (m : Int) < (ks.length : Int) := by omega
          generalize ks[m] = x at *
          rw [HbE.out x] at hd
          obtain ⟨B1, hB1⟩ : ∃ B, decide (x = 1) = B := ⟨_, rfl⟩
          obtain ⟨B2, hB2⟩ : ∃ B, decide (x = 2) = B := ⟨_, rfl⟩
          obtain ⟨B0, hB0⟩ : ∃ B, decide (x = 0) = B := ⟨_, rfl⟩
          have q1 : (x != 1) = !B1 := by rw [← hB1]; rfl
          have q2 : (x != 2) = !B2 := by rw [← hB2]; rfl
          have q0 : (x != 0) = !B0 := by rw [← hB0]; rfl
          rw [hB1, hB2, hB0] at hd
          have Hd := Lib.hid hd
          clear hd hB1 hB2 hB0 hlt
          cases LG <;> cases AR <;> cases B0 <;> cases B1 <;> cases B2
          all_goals
            try simp only [Bool.not_true, Bool.not_false] at q0 q1 q2
            go_wp2_with (first | (go_at_call 50; refine (gl _).mono ?_; rintro e' w' ⟨rfl, rfl⟩) | (go_at_call 42; refine (gr _).mono ?_; rintro e' w' ⟨rfl, rfl⟩))
            first
            | (go_ret2
               refine NumS.mk' (HE.out.trans (if_pos ?_)) (HS.out.trans HSr.out)
               rw [Hrl.out, Hd.out]
               rfl)
            | (go_round
               case rel => exact ⟨m + 1, by omega, by go_num, by rw [Hrl.out, Hd.out]; rfl⟩
               case measure => simp [intOf]; omega)
        · have hany : ks.any fk = false := by rw [Hrl.out, List.drop_of_length_le (by omega)]; rfl
          have E := HE.out.trans (if_neg (by rw [hany]; decide))
          have HE := Lib.hid E
          have y2 : (ks.length : Int) ≤ (m : Int) := by omega
          clear E hany hlt x9
          cases AR
          rotate_left 1
          · have E := HE.out.trans (if_pos rfl)
            have HE := Lib.hid E
            clear E
            go_wp2_with (go_at_call 42; refine (gr _).mono ?_; rintro e' w' ⟨rfl, rfl⟩)
            go_ret2
            exact NumS.mk' HE.out (HS.out.trans HSr.out)
          have E := HE.out.trans (if_neg (by decide))
          have HE := Lib.hid E
          clear E
          cases LG
          rotate_left 1
          · have E := HE.out.trans (if_neg (by simp))
            have HE := Lib.hid E
            clear E
            go_wp2_with (go_at_call 42; refine (gr _).mono ?_; rintro e' w' ⟨rfl, rfl⟩)
            go_quiet ((go_at_call 50; refine Calls.quiet_of_same ((gl _).mono fun _ _ h => ⟨h.1, h.2.symm⟩)))
            rename_i nq
            go_wp2
            go_ret2
            exact NumS.mk' HE.out (HS.out.trans (HSr.out.drewN nq))
          by_cases h2 : ks.length = 2
          rotate_left 1
          · have b8 : ((ks.length : Int) == 2) = false := by simp; omega
            have b9 : (ks.length == 2) = false := by simpa using h2
            have E := HE.out.trans (if_neg (by simp [h2]))
            have HE := Lib.hid E
            clear E h2
            go_wp2_with (go_at_call 42; refine (gr _).mono ?_; rintro e' w' ⟨rfl, rfl⟩)
            go_quiet ((go_at_call 50; refine Calls.quiet_of_same ((gl _).mono fun _ _ h => ⟨h.1, h.2.symm⟩)))
            rename_i nq
            go_wp2
            go_ret2
            exact NumS.mk' HE.out (HS.out.trans (HSr.out.drewN nq))
          obtain ⟨a, b, rfl⟩ : ∃ a b, ks = [a, b] := by
            match ks, h2 with
            | [a, b], _ => exact ⟨a, b, rfl⟩
          obtain ⟨am, rfl, g0, g1⟩ := Hin.out.two
          have hp : pairB [a, b] = (decide (a = b) || (decide (a = 0) || decide (b = 0))) := rfl
          rw [hp] at HE
          obtain ⟨E1, hE1⟩ : ∃ B, decide (a = b) = B := ⟨_, rfl⟩
          obtain ⟨E2, hE2⟩ : ∃ B, decide (a = 0) = B := ⟨_, rfl⟩
          obtain ⟨E3, hE3⟩ : ∃ B, decide (b = 0) = B := ⟨_, rfl⟩
          have q1 : (a != b) = !E1 := by rw [← hE1]; rfl
          have q2 : (a != 0) = !E2 := by rw [← hE2]; rfl
          have q3 : (b != 0) = !E3 := by rw [← hE3]; rfl
          rw [hE1, hE2, hE3] at HE
          have y3 : (2 : Int) ≤ (m : Int) := y2
          have y4 : 2 ≤ m := by omega
          have y5 : decide (m < 2) = false := by simp; omega
          have y6 : decide ((m : Int) < 2) = false := by simp; omega
          clear hp hE1 hE2 hE3 h2
          cases E1 <;> cases E2 <;> cases E3
          all_goals
            try simp only [Bool.not_true, Bool.not_false] at q1 q2 q3
            go_wp2_with (go_at_call 42; refine (gr _).mono ?_; rintro e' w' ⟨rfl, rfl⟩)
            go_quiet ((go_at_call 50; refine Calls.quiet_of_same ((gl _).mono fun _ _ h => ⟨h.1, h.2.symm⟩)))
            rename_i nq
            go_wp2
            go_ret2
            exact NumS.mk' (HE.out.trans rfl) (HS.out.trans (HSr.out.drewN nq))
end Go.Proofs.Ytakbikibahhepaa
