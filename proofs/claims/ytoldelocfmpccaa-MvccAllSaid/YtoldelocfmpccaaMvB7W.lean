/-
  MvccAll: for all operations, cells become and tell what the document says, and what was there ahead is as it was: the walk.
-/
import Derived.Test.YtoldelocfmpccaaMvTdW
import Derived.Test.YtoldelocfmpccaaMvWpW
set_option linter.unusedSimpArgs false
set_option linter.unusedVariables false
namespace Go.Proofs.Ytoldelocfmpccaa
open Go.RowKit

set_option maxRecDepth 100000 in
set_option maxHeartbeats 8000000 in
theorem all_walk (v : Value) (ops : List OpT) (key : List UInt8) (a : St) (lo hi : List UInt8) (b : TryT) (most : Int) (w : World) (hv : OpsR w (fun q => q < w.heap.size) v ops) (hk1 : lo.length ≤ maxLen) (hk2 : hi.length ≤ maxLen) (hk3 : key.length ≤ 9223372036854775807) :
    Calls Try.prog 9 #[v, .string (str key), stV a, .agg #[.string (str lo), .string (str hi)], tryV b, .int .i64 most] w fun e w' => e = .returned (.bool true) ∧ Same (fun _ => True) w w' := by
  have hv' := hv
  obtain ⟨A, c, rfl, hc, hm, -⟩ := hv'
  have Hops := Lib.hid hv
  have r0 := ((Row.new w 28 (stCs a)).keep ((Same.refl (fun _ => True) _).alloc (.cells ([.string (str lo), .string (str hi)]).toArray 53)) trivial).keep ((Same.refl (fun _ => True) _).alloc (.cells (tryCs b).toArray 26)) trivial
  have r1 := (Row.new (w.alloc (.cells (stCs a).toArray 28)) 53 [.string (str lo), .string (str hi)]).keep ((Same.refl (fun _ => True) _).alloc (.cells (tryCs b).toArray 26)) trivial
  have r2 := Row.new ((w.alloc (.cells (stCs a).toArray 28)).alloc (.cells ([.string (str lo), .string (str hi)]).toArray 53)) 26 (tryCs b)
  have hS0 := (((Same.refl (fun _ => True) w).alloc (.cells (stCs a).toArray 28)).alloc (.cells ([.string (str lo), .string (str hi)]).toArray 53)).alloc (.cells (tryCs b).toArray 26)
  rw [World.size_alloc] at r1
  rw [World.size_alloc, World.size_alloc] at r2
  have R0 := Lib.hid r0
  have R1 := Lib.hid r1
  have R2 := Lib.hid r2
  have HS0 := Lib.hid hS0
  unfold maxLen at hm hk1 hk2
  clear hv r0 r1 r2 hS0
  go_enter Try.func9, Try.ntmps9
  go_wp2_with (go_at_call 21; refine stopAt ?_)
  unfold Hid
  refine (begun_any _).mono ?_
  rintro e w1 ⟨rfl, hS1⟩
  have HS1 := Lib.hid (HS0.out.trans hS1)
  have RA := Lib.hid (R0.out.keep hS1 trivial)
  have RS := Lib.hid (R1.out.keep hS1 trivial)
  have RT := Lib.hid (R2.out.keep hS1 trivial)
  clear hS1 R0 R1 R2 HS0
  have z1 := RT.out.lt
  obtain ⟨B, hBe⟩ : ∃ B, B = w1.heap.size := ⟨_, rfl⟩
  have HBe := Lib.hid hBe
  clear hBe
  have ra_ := RA.out.keep (Same.refl (fun _ => True) w1) trivial
  have rs_ := RS.out.keep (Same.refl (fun _ => True) w1) trivial
  have rt_ := RT.out.keep (Same.refl (fun _ => True) w1) trivial
  have a0 : w1.cell? ⟨w.heap.size, 0, none⟩ = some (.int .i64 a.wall) := ra_.cell 0
  have a1 : w1.cell? ⟨w.heap.size, 1, none⟩ = some (.int .i64 a.tie) := ra_.cell 1
  have s0 : w1.cell? ⟨w.heap.size + 1, 0, none⟩ = some (.string (str lo)) := rs_.cell 0
  have s1 : w1.cell? ⟨w.heap.size + 1, 1, none⟩ = some (.string (str hi)) := rs_.cell 1
  have t0 : w1.cell? ⟨w.heap.size + 2, 0, none⟩ = some (.int .i64 b.node) := rt_.cell 0
  have t1 : w1.cell? ⟨w.heap.size + 2, 1, none⟩ = some (.int .i64 b.life) := rt_.cell 1
  have t2 : w1.cell? ⟨w.heap.size + 2, 2, none⟩ = some (.int .i64 b.seq) := rt_.cell 2
  have t3 : w1.cell? ⟨w.heap.size + 2, 3, none⟩ = some (.int .i64 b.attempt) := rt_.cell 3
  have zs := rt_.lt
  clear ra_ rs_ rt_
  go_wp2_with (go_at_call 22; refine stopAt ?_)
  unfold Hid
  refine (light_any (.slice A ops.length c) ops 60 _ w1 (SlOf.keep Hops.out (HS1.out.mono fun _ _ _ => trivial)) (by omega)).mono ?_
  rintro e w2 ⟨bl, rfl, hbl, rfl⟩
  cases bl
  · clear hbl
    go_wp2
    go_ret
    exact ⟨rfl, HS1.out⟩
  have hn := hbl rfl
  clear hbl
  have z2 : (str lo).size = lo.length := str_size _
  have z3 : (str hi).size = hi.length := str_size _
  have z4 : (str key).size = key.length := str_size _
  go_wp2
  all_goals try (go_ret; exact ⟨rfl, HS1.out⟩)
  clear a0 a1 s0 s1 t0 t1 t2 t3 zs
  go_loopw [13, 14] (fun v i wr => ∃ k : Nat, i = .int .i64 k ∧ k ≤ ops.length ∧ OwnC wr B v (runF (ops.take k)) ∧ Same (fun q => q < B) w1 wr) (fun _ i _ => ops.length - (intOf i).toNat)
  case atStart => exact ⟨0, rfl, Nat.zero_le _, OwnC.nil _ _, Same.refl _ _⟩
  case round =>
    obtain ⟨k, rfl, hk, hown, hS⟩ := hrel
    have hf := run_fine ops k hk
    obtain ⟨Al, nl, cl, rfl, hl1, hl2⟩ := hown.form3
    have HS := Lib.hid hS
    have Hown := Lib.hid hown
    have hBl : B ≤ w1.heap.size := by rw [HBe.out]; exact Nat.le_refl _
    unfold maxLen at hl2
    by_cases hlt : k < ops.length
    · have x1 : (0 : Int) ≤ (k : Int) := by omega
      have x2 : (k : Int) < (ops.length : Int) := by omega
      have hst := runF_step hlt
      obtain ⟨cs, hcs⟩ : ∃ cs, cs = runF (ops.take k) := ⟨_, rfl⟩
      rw [← hcs] at hf Hown hst
      have Hst := Lib.hid hst
      have Hf := Lib.hid hf
      have hSw : Same (fun _ => True) w wr := HS1.out.trans' hS fun i hi _ => by have := HBe.out; have := HS1.out.size; omega
      have HSw := Lib.hid hSw
      clear hown hS hf hst hcs hSw
      go_wp2_with (go_at_call 34; refine stopAt ?_)
      unfold Hid
      refine (refcopy_any (.slice Al nl cl) cs _ wr Hown.out.reads (Hf.out.len (by omega)) (Hf.out.vers (by omega))).mono ?_
      rintro e w3 ⟨v3, rfl, hown3, hS3⟩
      have HS3 := Lib.hid (HS.out.trans' hS3 fun _ _ _ => trivial)
      have HSw3 := Lib.hid (HSw.out.trans hS3)
      have Hc3 := Lib.hid (Hown.out.keepAll hS3)
      have HSw33 := Lib.hid hS3
      have Hd3 := Lib.hid hown3
      have hw3 := hS3.size
      clear hown3 hS3
      obtain ⟨ad, rfl, -, -, c0, hcs⟩ := ops_at (SlOf.keep Hops.out (HSw3.out.mono fun _ _ _ => trivial)) hlt
      have c1 := hcs 1 (by omega) (by omega)
      have c2 := hcs 2 (by omega) (by omega)
      have c3 := hcs 3 (by omega) (by omega)
      have c4 := hcs 4 (by omega) (by omega)
      have c5 := hcs 5 (by omega) (by omega)
      have c6 := hcs 6 (by omega) (by omega)
      have c7 := hcs 7 (by omega) (by omega)
      have c8 := hcs 8 (by omega) (by omega)
      have c9 := hcs 9 (by omega) (by omega)
      have c10 := hcs 10 (by omega) (by omega)
      have c11 := hcs 11 (by omega) (by omega)
      have c12 := hcs 12 (by omega) (by omega)
      have c13 := hcs 13 (by omega) (by omega)
      simp only [opCs, List.getElem?_cons_zero, List.getElem?_cons_succ] at c1 c2 c3 c4 c5 c6 c7 c8 c9 c10 c11 c12 c13
      have gd := do_any (.slice Al nl cl) cs ops[k] _ w3 Hc3.out.reads Hf.out.good (Hf.out.len (by omega)) (Hf.out.vers (by omega))
      rw [← Hst.out] at gd
      have hfo := run_fine ops (k + 1) (by omega)
      have Hfo := Lib.hid hfo
      clear hcs hfo
      obtain ⟨o, ho⟩ : ∃ o, o = ops[k] := ⟨_, rfl⟩
      rw [← ho] at gd c0 c1 c2 c3 c4 c5 c6 c7 c8 c9 c10 c11 c12 c13
      have Ho := Lib.hid ho
      clear ho
      go_wp2_with (go_at_call 23; refine stopAt ?_)
      unfold Hid
      refine gd.mono ?_
      rintro e w5 ⟨v1, v2, rfl, hx5, hy5, hS5⟩
      obtain ⟨cx, hcx⟩ : ∃ cx, cx = runF (ops.take (k + 1)) := ⟨_, rfl⟩
      rw [← hcx] at hx5 hy5 Hfo
      have Hcx := Lib.hid hcx
      have HS5 := Lib.hid (HS3.out.trans' hS5 fun _ _ _ => trivial)
      have HSw5 := Lib.hid (HSw3.out.trans hS5)
      have Hc5 := Lib.hid (Hc3.out.keepAll hS5)
      have HSw35 := Lib.hid (HSw33.out.trans hS5)
      have Hd5 := Lib.hid (Hd3.out.keepAll hS5)
      have Hx5 := Lib.hid hx5
      have Hy5 := Lib.hid hy5
      clear hx5 hy5 hS5 gd hcx c0 c1 c2 c3 c4 c5 c6 c7 c8 c9 c10 c11 c12 c13
      obtain ⟨ad', e1, -, -, c0, hcs⟩ := ops_at (SlOf.keep Hops.out (HSw5.out.mono fun _ _ _ => trivial)) hlt
      injection e1 with e1
      subst e1
      have c1 := hcs 1 (by omega) (by omega)
      have c2 := hcs 2 (by omega) (by omega)
      have c3 := hcs 3 (by omega) (by omega)
      have c4 := hcs 4 (by omega) (by omega)
      have c5 := hcs 5 (by omega) (by omega)
      have c6 := hcs 6 (by omega) (by omega)
      have c7 := hcs 7 (by omega) (by omega)
      have c8 := hcs 8 (by omega) (by omega)
      have c9 := hcs 9 (by omega) (by omega)
      have c10 := hcs 10 (by omega) (by omega)
      have c11 := hcs 11 (by omega) (by omega)
      have c12 := hcs 12 (by omega) (by omega)
      have c13 := hcs 13 (by omega) (by omega)
      simp only [opCs, List.getElem?_cons_zero, List.getElem?_cons_succ] at c1 c2 c3 c4 c5 c6 c7 c8 c9 c10 c11 c12 c13
      rw [← Ho.out] at c0 c1 c2 c3 c4 c5 c6 c7 c8 c9 c10 c11 c12 c13
      clear hcs
      have ra_ := RA.out.keep HS5.out (by have := HBe.out; omega)
      have rs_ := RS.out.keep HS5.out (by have := HBe.out; omega)
      have rt_ := RT.out.keep HS5.out (by have := HBe.out; omega)
      have a0 : w5.cell? ⟨w.heap.size, 0, none⟩ = some (.int .i64 a.wall) := ra_.cell 0
      have a1 : w5.cell? ⟨w.heap.size, 1, none⟩ = some (.int .i64 a.tie) := ra_.cell 1
      have s0 : w5.cell? ⟨w.heap.size + 1, 0, none⟩ = some (.string (str lo)) := rs_.cell 0
      have s1 : w5.cell? ⟨w.heap.size + 1, 1, none⟩ = some (.string (str hi)) := rs_.cell 1
      have t0 : w5.cell? ⟨w.heap.size + 2, 0, none⟩ = some (.int .i64 b.node) := rt_.cell 0
      have t1 : w5.cell? ⟨w.heap.size + 2, 1, none⟩ = some (.int .i64 b.life) := rt_.cell 1
      have t2 : w5.cell? ⟨w.heap.size + 2, 2, none⟩ = some (.int .i64 b.seq) := rt_.cell 2
      have t3 : w5.cell? ⟨w.heap.size + 2, 3, none⟩ = some (.int .i64 b.attempt) := rt_.cell 3
      have zs := rt_.lt
      clear ra_ rs_ rt_
      go_wp2
      refine wp_region_eq_lit (vs := [v1, v2, (.bool true), (.bool false), (.bool false), (.slice Al nl cl), v3, (.bool true), (.bool false), (.bool false), (.bool false), v1, (.string (str key)), (stV a), (.agg #[.string (str lo), .string (str hi)]), (tryV b), (.int .i64 most), (.bool true), (.bool false), (.bool false), (.bool false), v1, (.slice (some ad) ops.length c), (.int .i64 k), (.pointer (some (ad.add (k * 14)))), (.pointer (some ⟨(ad.add (k * 14)).block, (ad.add (k * 14)).off + 1, none⟩)), (.pointer (some ⟨(ad.add (k * 14)).block, (ad.add (k * 14)).off + 1, none⟩)), (.string (str o.w.key)), (.slice (some ad) ops.length c), (.int .i64 k), (.pointer (some (ad.add (k * 14)))), (.pointer (some ⟨(ad.add (k * 14)).block, (ad.add (k * 14)).off + 4, none⟩)), (.pointer (some ⟨(ad.add (k * 14)).block, (ad.add (k * 14)).off + 9, none⟩)), (stV o.l.at_), (.agg #[.string (str lo), .string (str hi)]), (.slice (some ad) ops.length c), (.int .i64 k), (.pointer (some (ad.add (k * 14)))), (.pointer (some ⟨(ad.add (k * 14)).block, (ad.add (k * 14)).off + 4, none⟩)), (.pointer (some ⟨(ad.add (k * 14)).block, (ad.add (k * 14)).off + 4, none⟩)), (tryV o.l.by_), (.bool true), (.bool false), (.bool false)]) (by kernel_rfl) (by kernel_rfl) rfl rfl ?_ ?_
      · refine ⟨?_, ?_, ?_, ?_, ?_, ?_, ?_, ?_, ?_, ?_, ?_, ?_, ?_, ?_, ?_, ?_, ?_, ?_, ?_, ?_, ?_, ?_, ?_, ?_, ?_, ?_, ?_, ?_, ?_, ?_, ?_, ?_, ?_, ?_, ?_, ?_, ?_, ?_, ?_, ?_, ?_, ?_, ?_, ?_, trivial⟩
        · intro ac wc hs hd hz hf hw K hK
          have e0 : ac.eval (.tmp 16) = v1 := hf 16 rfl
          clear hd hz hf hw
          simp only [Region.wanted, if_true, Oper.wp, execOp, resolve, List.map_toArray, List.map_cons, List.map_nil, Option.map_some, Option.map_none, e0]
          go_simp
          exact hK _ _ rfl (Same.refl _ _)
        · intro ac wc hs hd hz hf hw K hK
          have e0 : ac.eval (.tmp 17) = v2 := hf 17 rfl
          clear hd hz hf hw
          simp only [Region.wanted, if_true, Oper.wp, execOp, resolve, List.map_toArray, List.map_cons, List.map_nil, Option.map_some, Option.map_none, e0]
          go_simp
          exact hK _ _ rfl (Same.refl _ _)
        · intro ac wc hs hd hz hf hw K hK
          have e0 : ac.eval (.tmp 59) = v1 := hw 0 rfl
          have e1 : ac.eval (.tmp 60) = v2 := hw 1 rfl
          clear hd hz hf hw
          simp only [Region.wanted, if_true, Oper.wp, execOp, resolve, List.map_toArray, List.map_cons, List.map_nil, Option.map_some, Option.map_none, e0, e1]
          go_simp
          refine (same_any v1 v2 cx _ _ wc (Hx5.out.keepAll hs).reads (Hy5.out.keepAll hs).reads (Hfo.out.len (by omega)) (Hfo.out.vers (by omega))).mono ?_
          rintro e wd ⟨rfl, hs2⟩
          exact hK _ _ rfl hs2
        · intro ac wc hs hd hz hf hw K hK
          have e0 : ac.eval (.tmp 61) = (.bool true) := hw 2 rfl
          clear hd hz hf hw
          simp only [Region.wanted, if_true, Oper.wp, execOp, resolve, List.map_toArray, List.map_cons, List.map_nil, Option.map_some, Option.map_none, e0]
          go_simp
          exact hK _ _ rfl (Same.refl _ _)
        · intro ac wc hs hd hz hf hw K hK
          have e0 : ac.eval (.tmp 62) = (.bool false) := hw 3 rfl
          clear hd hz hf hw
          simp only [Region.wanted, if_true, Oper.wp, execOp, resolve, List.map_toArray, List.map_cons, List.map_nil, Option.map_some, Option.map_none, e0]
          go_simp
          exact hK _ _ rfl (Same.refl _ _)
        · intro ac wc hs hd hz hf hw K hK
          have eg : ac.eval (.tmp 63) = .bool false := hw 4 rfl
          refine run_wanted (j := 4) (d := 63) (b := false) rfl rfl hz (of_decide_eq_true rfl) eg ?_
          clear eg
          have e0 : ac.eval (.tmp 13) = (.slice Al nl cl) := hf 13 rfl
          clear hd hz hf hw
          simp only [Oper.wp, execOp, resolve, List.map_toArray, List.map_cons, List.map_nil, Option.map_some, Option.map_none, e0]
          go_simp
          exact hK _ _ rfl (Same.refl _ _)
        · intro ac wc hs hd hz hf hw K hK
          have eg : ac.eval (.tmp 63) = .bool false := hw 4 rfl
          refine run_wanted (j := 4) (d := 63) (b := false) rfl rfl hz (of_decide_eq_true rfl) eg ?_
          clear eg
          have e0 : ac.eval (.tmp 15) = v3 := hf 15 rfl
          clear hd hz hf hw
          simp only [Oper.wp, execOp, resolve, List.map_toArray, List.map_cons, List.map_nil, Option.map_some, Option.map_none, e0]
          go_simp
          exact hK _ _ rfl (Same.refl _ _)
        · intro ac wc hs hd hz hf hw K hK
          have eg : ac.eval (.tmp 63) = .bool false := hw 4 rfl
          refine run_wanted (j := 4) (d := 63) (b := false) rfl rfl hz (of_decide_eq_true rfl) eg ?_
          clear eg
          have e0 : ac.eval (.tmp 64) = (.slice Al nl cl) := hw 5 rfl
          have e1 : ac.eval (.tmp 65) = v3 := hw 6 rfl
          clear hd hz hf hw
          simp only [Oper.wp, execOp, resolve, List.map_toArray, List.map_cons, List.map_nil, Option.map_some, Option.map_none, e0, e1]
          go_simp
          refine (same_any (.slice Al nl cl) v3 cs _ _ wc (Hc5.out.keepAll hs).reads (Hd5.out.keepAll hs).reads (Hf.out.len (by omega)) (Hf.out.vers (by omega))).mono ?_
          rintro e wd ⟨rfl, hs2⟩
          exact hK _ _ rfl hs2
        · intro ac wc hs hd hz hf hw K hK
          have eg : ac.eval (.tmp 63) = .bool false := hw 4 rfl
          refine run_wanted (j := 4) (d := 63) (b := false) rfl rfl hz (of_decide_eq_true rfl) eg ?_
          clear eg
          have e0 : ac.eval (.tmp 66) = (.bool true) := hw 7 rfl
          clear hd hz hf hw
          simp only [Oper.wp, execOp, resolve, List.map_toArray, List.map_cons, List.map_nil, Option.map_some, Option.map_none, e0]
          go_simp
          exact hK _ _ rfl (Same.refl _ _)
        · intro ac wc hs hd hz hf hw K hK
          have e0 : ac.eval (.tmp 63) = (.bool false) := hw 4 rfl
          have e1 : ac.eval (.tmp 67) = (.bool false) := hw 8 rfl
          clear hd hz hf hw
          simp only [Region.wanted, if_true, Oper.wp, execOp, resolve, List.map_toArray, List.map_cons, List.map_nil, Option.map_some, Option.map_none, e0, e1]
          go_simp
          exact hK _ _ rfl (Same.refl _ _)
        · intro ac wc hs hd hz hf hw K hK
          have e0 : ac.eval (.tmp 68) = (.bool false) := hw 9 rfl
          clear hd hz hf hw
          simp only [Region.wanted, if_true, Oper.wp, execOp, resolve, List.map_toArray, List.map_cons, List.map_nil, Option.map_some, Option.map_none, e0]
          go_simp
          exact hK _ _ rfl (Same.refl _ _)
        · intro ac wc hs hd hz hf hw K hK
          have eg : ac.eval (.tmp 69) = .bool false := hw 10 rfl
          refine run_wanted (j := 10) (d := 69) (b := false) rfl rfl hz (of_decide_eq_true rfl) eg ?_
          clear eg
          have e0 : ac.eval (.tmp 16) = v1 := hf 16 rfl
          clear hd hz hf hw
          simp only [Oper.wp, execOp, resolve, List.map_toArray, List.map_cons, List.map_nil, Option.map_some, Option.map_none, e0]
          go_simp
          exact hK _ _ rfl (Same.refl _ _)
        · intro ac wc hs hd hz hf hw K hK
          have eg : ac.eval (.tmp 69) = .bool false := hw 10 rfl
          refine run_wanted (j := 10) (d := 69) (b := false) rfl rfl hz (of_decide_eq_true rfl) eg ?_
          clear eg
          have e0 : ac.eval (.tmp 1) = (.string (str key)) := hf 1 rfl
          clear hd hz hf hw
          simp only [Oper.wp, execOp, resolve, List.map_toArray, List.map_cons, List.map_nil, Option.map_some, Option.map_none, e0]
          go_simp
          exact hK _ _ rfl (Same.refl _ _)
        · intro ac wc hs hd hz hf hw K hK
          have eg : ac.eval (.tmp 69) = .bool false := hw 10 rfl
          refine run_wanted (j := 10) (d := 69) (b := false) rfl rfl hz (of_decide_eq_true rfl) eg ?_
          clear eg
          have e0 : ac.eval (.tmp 8) = (.pointer (some ⟨w.heap.size, 0, none⟩)) := hf 8 rfl
          have m0 : wc.cell? ⟨w.heap.size, 0, none⟩ = some (.int .i64 a.wall) := hs.cell (p := ⟨w.heap.size, 0, none⟩) trivial a0
          have m1 : wc.cell? ⟨w.heap.size, 1, none⟩ = some (.int .i64 a.tie) := hs.cell (p := ⟨w.heap.size, 1, none⟩) trivial a1
          clear hd hz hf hw
          simp only [Oper.wp, execOp, resolve, List.map_toArray, List.map_cons, List.map_nil, Option.map_some, Option.map_none, e0]
          go_simp
          exact hK _ _ rfl (Same.refl _ _)
        · intro ac wc hs hd hz hf hw K hK
          have eg : ac.eval (.tmp 69) = .bool false := hw 10 rfl
          refine run_wanted (j := 10) (d := 69) (b := false) rfl rfl hz (of_decide_eq_true rfl) eg ?_
          clear eg
          have e0 : ac.eval (.tmp 9) = (.pointer (some ⟨w.heap.size + 1, 0, none⟩)) := hf 9 rfl
          have m0 : wc.cell? ⟨w.heap.size + 1, 0, none⟩ = some (.string (str lo)) := hs.cell (p := ⟨w.heap.size + 1, 0, none⟩) trivial s0
          have m1 : wc.cell? ⟨w.heap.size + 1, 1, none⟩ = some (.string (str hi)) := hs.cell (p := ⟨w.heap.size + 1, 1, none⟩) trivial s1
          clear hd hz hf hw
          simp only [Oper.wp, execOp, resolve, List.map_toArray, List.map_cons, List.map_nil, Option.map_some, Option.map_none, e0]
          go_simp
          exact hK _ _ rfl (Same.refl _ _)
        · intro ac wc hs hd hz hf hw K hK
          have eg : ac.eval (.tmp 69) = .bool false := hw 10 rfl
          refine run_wanted (j := 10) (d := 69) (b := false) rfl rfl hz (of_decide_eq_true rfl) eg ?_
          clear eg
          have e0 : ac.eval (.tmp 10) = (.pointer (some ⟨w.heap.size + 2, 0, none⟩)) := hf 10 rfl
          have m0 : wc.cell? ⟨w.heap.size + 2, 0, none⟩ = some (.int .i64 b.node) := hs.cell (p := ⟨w.heap.size + 2, 0, none⟩) trivial t0
          have m1 : wc.cell? ⟨w.heap.size + 2, 1, none⟩ = some (.int .i64 b.life) := hs.cell (p := ⟨w.heap.size + 2, 1, none⟩) trivial t1
          have m2 : wc.cell? ⟨w.heap.size + 2, 2, none⟩ = some (.int .i64 b.seq) := hs.cell (p := ⟨w.heap.size + 2, 2, none⟩) trivial t2
          have m3 : wc.cell? ⟨w.heap.size + 2, 3, none⟩ = some (.int .i64 b.attempt) := hs.cell (p := ⟨w.heap.size + 2, 3, none⟩) trivial t3
          clear hd hz hf hw
          simp only [Oper.wp, execOp, resolve, List.map_toArray, List.map_cons, List.map_nil, Option.map_some, Option.map_none, e0]
          go_simp
          exact hK _ _ rfl (Same.refl _ _)
        · intro ac wc hs hd hz hf hw K hK
          have eg : ac.eval (.tmp 69) = .bool false := hw 10 rfl
          refine run_wanted (j := 10) (d := 69) (b := false) rfl rfl hz (of_decide_eq_true rfl) eg ?_
          clear eg
          have e0 : ac.eval (.tmp 5) = (.int .i64 most) := hf 5 rfl
          clear hd hz hf hw
          simp only [Oper.wp, execOp, resolve, List.map_toArray, List.map_cons, List.map_nil, Option.map_some, Option.map_none, e0]
          go_simp
          exact hK _ _ rfl (Same.refl _ _)
        · intro ac wc hs hd hz hf hw K hK
          have eg : ac.eval (.tmp 69) = .bool false := hw 10 rfl
          refine run_wanted (j := 10) (d := 69) (b := false) rfl rfl hz (of_decide_eq_true rfl) eg ?_
          clear eg
          have e0 : ac.eval (.tmp 70) = v1 := hw 11 rfl
          have e1 : ac.eval (.tmp 71) = (.string (str key)) := hw 12 rfl
          have e2 : ac.eval (.tmp 72) = (stV a) := hw 13 rfl
          have e3 : ac.eval (.tmp 73) = (.agg #[.string (str lo), .string (str hi)]) := hw 14 rfl
          have e4 : ac.eval (.tmp 74) = (tryV b) := hw 15 rfl
          have e5 : ac.eval (.tmp 75) = (.int .i64 most) := hw 16 rfl
          clear hd hz hf hw
          simp only [Oper.wp, execOp, resolve, List.map_toArray, List.map_cons, List.map_nil, Option.map_some, Option.map_none, e0, e1, e2, e3, e4, e5]
          go_simp
          refine (told_any v1 cx key a lo hi b most (fun q => q < wc.heap.size) wc ((Hx5.out.keepAll hs).reads.mono fun q hq _ => hq) (fun q h => h) Hfo.out.good (Hfo.out.len (by omega)) (Hfo.out.vers (by omega))).mono ?_
          rintro e wd ⟨rfl, hs2⟩
          exact hK _ _ rfl hs2
        · intro ac wc hs hd hz hf hw K hK
          have eg : ac.eval (.tmp 69) = .bool false := hw 10 rfl
          refine run_wanted (j := 10) (d := 69) (b := false) rfl rfl hz (of_decide_eq_true rfl) eg ?_
          clear eg
          have e0 : ac.eval (.tmp 76) = (.bool true) := hw 17 rfl
          clear hd hz hf hw
          simp only [Oper.wp, execOp, resolve, List.map_toArray, List.map_cons, List.map_nil, Option.map_some, Option.map_none, e0]
          go_simp
          exact hK _ _ rfl (Same.refl _ _)
        · intro ac wc hs hd hz hf hw K hK
          have e0 : ac.eval (.tmp 69) = (.bool false) := hw 10 rfl
          have e1 : ac.eval (.tmp 77) = (.bool false) := hw 18 rfl
          clear hd hz hf hw
          simp only [Region.wanted, if_true, Oper.wp, execOp, resolve, List.map_toArray, List.map_cons, List.map_nil, Option.map_some, Option.map_none, e0, e1]
          go_simp
          exact hK _ _ rfl (Same.refl _ _)
        · intro ac wc hs hd hz hf hw K hK
          have e0 : ac.eval (.tmp 78) = (.bool false) := hw 19 rfl
          clear hd hz hf hw
          simp only [Region.wanted, if_true, Oper.wp, execOp, resolve, List.map_toArray, List.map_cons, List.map_nil, Option.map_some, Option.map_none, e0]
          go_simp
          exact hK _ _ rfl (Same.refl _ _)
        · intro ac wc hs hd hz hf hw K hK
          have eg : ac.eval (.tmp 79) = .bool false := hw 20 rfl
          refine run_wanted (j := 20) (d := 79) (b := false) rfl rfl hz (of_decide_eq_true rfl) eg ?_
          clear eg
          have e0 : ac.eval (.tmp 16) = v1 := hf 16 rfl
          clear hd hz hf hw
          simp only [Oper.wp, execOp, resolve, List.map_toArray, List.map_cons, List.map_nil, Option.map_some, Option.map_none, e0]
          go_simp
          exact hK _ _ rfl (Same.refl _ _)
        · intro ac wc hs hd hz hf hw K hK
          have eg : ac.eval (.tmp 79) = .bool false := hw 20 rfl
          refine run_wanted (j := 20) (d := 79) (b := false) rfl rfl hz (of_decide_eq_true rfl) eg ?_
          clear eg
          have e0 : ac.eval (.tmp 0) = (.slice (some ad) ops.length c) := hf 0 rfl
          clear hd hz hf hw
          simp only [Oper.wp, execOp, resolve, List.map_toArray, List.map_cons, List.map_nil, Option.map_some, Option.map_none, e0]
          go_simp
          exact hK _ _ rfl (Same.refl _ _)
        · intro ac wc hs hd hz hf hw K hK
          have eg : ac.eval (.tmp 79) = .bool false := hw 20 rfl
          refine run_wanted (j := 20) (d := 79) (b := false) rfl rfl hz (of_decide_eq_true rfl) eg ?_
          clear eg
          have e0 : ac.eval (.tmp 14) = (.int .i64 k) := hf 14 rfl
          clear hd hz hf hw
          simp only [Oper.wp, execOp, resolve, List.map_toArray, List.map_cons, List.map_nil, Option.map_some, Option.map_none, e0]
          go_simp
          exact hK _ _ rfl (Same.refl _ _)
        · intro ac wc hs hd hz hf hw K hK
          have eg : ac.eval (.tmp 79) = .bool false := hw 20 rfl
          refine run_wanted (j := 20) (d := 79) (b := false) rfl rfl hz (of_decide_eq_true rfl) eg ?_
          clear eg
          have e0 : ac.eval (.tmp 81) = (.slice (some ad) ops.length c) := hw 22 rfl
          have e1 : ac.eval (.tmp 82) = (.int .i64 k) := hw 23 rfl
          clear hd hz hf hw
          simp only [Oper.wp, execOp, resolve, List.map_toArray, List.map_cons, List.map_nil, Option.map_some, Option.map_none, e0, e1]
          go_simp
          exact hK _ _ rfl (Same.refl _ _)
        · intro ac wc hs hd hz hf hw K hK
          have eg : ac.eval (.tmp 79) = .bool false := hw 20 rfl
          refine run_wanted (j := 20) (d := 79) (b := false) rfl rfl hz (of_decide_eq_true rfl) eg ?_
          clear eg
          have e0 : ac.eval (.tmp 83) = (.pointer (some (ad.add (k * 14)))) := hw 24 rfl
          clear hd hz hf hw
          simp only [Oper.wp, execOp, resolve, List.map_toArray, List.map_cons, List.map_nil, Option.map_some, Option.map_none, e0]
          go_simp
          exact hK _ _ rfl (Same.refl _ _)
        · intro ac wc hs hd hz hf hw K hK
          have eg : ac.eval (.tmp 79) = .bool false := hw 20 rfl
          refine run_wanted (j := 20) (d := 79) (b := false) rfl rfl hz (of_decide_eq_true rfl) eg ?_
          clear eg
          have e0 : ac.eval (.tmp 84) = (.pointer (some ⟨(ad.add (k * 14)).block, (ad.add (k * 14)).off + 1, none⟩)) := hw 25 rfl
          clear hd hz hf hw
          simp only [Oper.wp, execOp, resolve, List.map_toArray, List.map_cons, List.map_nil, Option.map_some, Option.map_none, e0]
          go_simp
          exact hK _ _ rfl (Same.refl _ _)
        · intro ac wc hs hd hz hf hw K hK
          have eg : ac.eval (.tmp 79) = .bool false := hw 20 rfl
          refine run_wanted (j := 20) (d := 79) (b := false) rfl rfl hz (of_decide_eq_true rfl) eg ?_
          clear eg
          have e0 : ac.eval (.tmp 85) = (.pointer (some ⟨(ad.add (k * 14)).block, (ad.add (k * 14)).off + 1, none⟩)) := hw 26 rfl
          have m0 : wc.cell? ⟨(ad.add (k * 14)).block, (ad.add (k * 14)).off + 1, none⟩ = some (.string (str o.w.key)) := hs.cell (p := ⟨(ad.add (k * 14)).block, (ad.add (k * 14)).off + 1, none⟩) trivial c1
          clear hd hz hf hw
          simp only [Oper.wp, execOp, resolve, List.map_toArray, List.map_cons, List.map_nil, Option.map_some, Option.map_none, e0]
          go_simp
          exact hK _ _ rfl (Same.refl _ _)
        · intro ac wc hs hd hz hf hw K hK
          have eg : ac.eval (.tmp 79) = .bool false := hw 20 rfl
          refine run_wanted (j := 20) (d := 79) (b := false) rfl rfl hz (of_decide_eq_true rfl) eg ?_
          clear eg
          have e0 : ac.eval (.tmp 0) = (.slice (some ad) ops.length c) := hf 0 rfl
          clear hd hz hf hw
          simp only [Oper.wp, execOp, resolve, List.map_toArray, List.map_cons, List.map_nil, Option.map_some, Option.map_none, e0]
          go_simp
          exact hK _ _ rfl (Same.refl _ _)
        · intro ac wc hs hd hz hf hw K hK
          have eg : ac.eval (.tmp 79) = .bool false := hw 20 rfl
          refine run_wanted (j := 20) (d := 79) (b := false) rfl rfl hz (of_decide_eq_true rfl) eg ?_
          clear eg
          have e0 : ac.eval (.tmp 14) = (.int .i64 k) := hf 14 rfl
          clear hd hz hf hw
          simp only [Oper.wp, execOp, resolve, List.map_toArray, List.map_cons, List.map_nil, Option.map_some, Option.map_none, e0]
          go_simp
          exact hK _ _ rfl (Same.refl _ _)
        · intro ac wc hs hd hz hf hw K hK
          have eg : ac.eval (.tmp 79) = .bool false := hw 20 rfl
          refine run_wanted (j := 20) (d := 79) (b := false) rfl rfl hz (of_decide_eq_true rfl) eg ?_
          clear eg
          have e0 : ac.eval (.tmp 87) = (.slice (some ad) ops.length c) := hw 28 rfl
          have e1 : ac.eval (.tmp 88) = (.int .i64 k) := hw 29 rfl
          clear hd hz hf hw
          simp only [Oper.wp, execOp, resolve, List.map_toArray, List.map_cons, List.map_nil, Option.map_some, Option.map_none, e0, e1]
          go_simp
          exact hK _ _ rfl (Same.refl _ _)
        · intro ac wc hs hd hz hf hw K hK
          have eg : ac.eval (.tmp 79) = .bool false := hw 20 rfl
          refine run_wanted (j := 20) (d := 79) (b := false) rfl rfl hz (of_decide_eq_true rfl) eg ?_
          clear eg
          have e0 : ac.eval (.tmp 89) = (.pointer (some (ad.add (k * 14)))) := hw 30 rfl
          clear hd hz hf hw
          simp only [Oper.wp, execOp, resolve, List.map_toArray, List.map_cons, List.map_nil, Option.map_some, Option.map_none, e0]
          go_simp
          exact hK _ _ rfl (Same.refl _ _)
        · intro ac wc hs hd hz hf hw K hK
          have eg : ac.eval (.tmp 79) = .bool false := hw 20 rfl
          refine run_wanted (j := 20) (d := 79) (b := false) rfl rfl hz (of_decide_eq_true rfl) eg ?_
          clear eg
          have e0 : ac.eval (.tmp 90) = (.pointer (some ⟨(ad.add (k * 14)).block, (ad.add (k * 14)).off + 4, none⟩)) := hw 31 rfl
          clear hd hz hf hw
          simp only [Oper.wp, execOp, resolve, List.map_toArray, List.map_cons, List.map_nil, Option.map_some, Option.map_none, e0]
          go_simp
          exact hK _ _ rfl (Same.refl _ _)
        · intro ac wc hs hd hz hf hw K hK
          have eg : ac.eval (.tmp 79) = .bool false := hw 20 rfl
          refine run_wanted (j := 20) (d := 79) (b := false) rfl rfl hz (of_decide_eq_true rfl) eg ?_
          clear eg
          have e0 : ac.eval (.tmp 91) = (.pointer (some ⟨(ad.add (k * 14)).block, (ad.add (k * 14)).off + 9, none⟩)) := hw 32 rfl
          have m0 : wc.cell? ⟨(ad.add (k * 14)).block, (ad.add (k * 14)).off + 9, none⟩ = some (.int .i64 o.l.at_.wall) := hs.cell (p := ⟨(ad.add (k * 14)).block, (ad.add (k * 14)).off + 9, none⟩) trivial c9
          have m1 : wc.cell? ⟨(ad.add (k * 14)).block, (ad.add (k * 14)).off + 10, none⟩ = some (.int .i64 o.l.at_.tie) := hs.cell (p := ⟨(ad.add (k * 14)).block, (ad.add (k * 14)).off + 10, none⟩) trivial c10
          clear hd hz hf hw
          simp only [Oper.wp, execOp, resolve, List.map_toArray, List.map_cons, List.map_nil, Option.map_some, Option.map_none, e0]
          go_simp
          exact hK _ _ rfl (Same.refl _ _)
        · intro ac wc hs hd hz hf hw K hK
          have eg : ac.eval (.tmp 79) = .bool false := hw 20 rfl
          refine run_wanted (j := 20) (d := 79) (b := false) rfl rfl hz (of_decide_eq_true rfl) eg ?_
          clear eg
          have e0 : ac.eval (.tmp 9) = (.pointer (some ⟨w.heap.size + 1, 0, none⟩)) := hf 9 rfl
          have m0 : wc.cell? ⟨w.heap.size + 1, 0, none⟩ = some (.string (str lo)) := hs.cell (p := ⟨w.heap.size + 1, 0, none⟩) trivial s0
          have m1 : wc.cell? ⟨w.heap.size + 1, 1, none⟩ = some (.string (str hi)) := hs.cell (p := ⟨w.heap.size + 1, 1, none⟩) trivial s1
          clear hd hz hf hw
          simp only [Oper.wp, execOp, resolve, List.map_toArray, List.map_cons, List.map_nil, Option.map_some, Option.map_none, e0]
          go_simp
          exact hK _ _ rfl (Same.refl _ _)
        · intro ac wc hs hd hz hf hw K hK
          have eg : ac.eval (.tmp 79) = .bool false := hw 20 rfl
          refine run_wanted (j := 20) (d := 79) (b := false) rfl rfl hz (of_decide_eq_true rfl) eg ?_
          clear eg
          have e0 : ac.eval (.tmp 0) = (.slice (some ad) ops.length c) := hf 0 rfl
          clear hd hz hf hw
          simp only [Oper.wp, execOp, resolve, List.map_toArray, List.map_cons, List.map_nil, Option.map_some, Option.map_none, e0]
          go_simp
          exact hK _ _ rfl (Same.refl _ _)
        · intro ac wc hs hd hz hf hw K hK
          have eg : ac.eval (.tmp 79) = .bool false := hw 20 rfl
          refine run_wanted (j := 20) (d := 79) (b := false) rfl rfl hz (of_decide_eq_true rfl) eg ?_
          clear eg
          have e0 : ac.eval (.tmp 14) = (.int .i64 k) := hf 14 rfl
          clear hd hz hf hw
          simp only [Oper.wp, execOp, resolve, List.map_toArray, List.map_cons, List.map_nil, Option.map_some, Option.map_none, e0]
          go_simp
          exact hK _ _ rfl (Same.refl _ _)
        · intro ac wc hs hd hz hf hw K hK
          have eg : ac.eval (.tmp 79) = .bool false := hw 20 rfl
          refine run_wanted (j := 20) (d := 79) (b := false) rfl rfl hz (of_decide_eq_true rfl) eg ?_
          clear eg
          have e0 : ac.eval (.tmp 94) = (.slice (some ad) ops.length c) := hw 35 rfl
          have e1 : ac.eval (.tmp 95) = (.int .i64 k) := hw 36 rfl
          clear hd hz hf hw
          simp only [Oper.wp, execOp, resolve, List.map_toArray, List.map_cons, List.map_nil, Option.map_some, Option.map_none, e0, e1]
          go_simp
          exact hK _ _ rfl (Same.refl _ _)
        · intro ac wc hs hd hz hf hw K hK
          have eg : ac.eval (.tmp 79) = .bool false := hw 20 rfl
          refine run_wanted (j := 20) (d := 79) (b := false) rfl rfl hz (of_decide_eq_true rfl) eg ?_
          clear eg
          have e0 : ac.eval (.tmp 96) = (.pointer (some (ad.add (k * 14)))) := hw 37 rfl
          clear hd hz hf hw
          simp only [Oper.wp, execOp, resolve, List.map_toArray, List.map_cons, List.map_nil, Option.map_some, Option.map_none, e0]
          go_simp
          exact hK _ _ rfl (Same.refl _ _)
        · intro ac wc hs hd hz hf hw K hK
          have eg : ac.eval (.tmp 79) = .bool false := hw 20 rfl
          refine run_wanted (j := 20) (d := 79) (b := false) rfl rfl hz (of_decide_eq_true rfl) eg ?_
          clear eg
          have e0 : ac.eval (.tmp 97) = (.pointer (some ⟨(ad.add (k * 14)).block, (ad.add (k * 14)).off + 4, none⟩)) := hw 38 rfl
          clear hd hz hf hw
          simp only [Oper.wp, execOp, resolve, List.map_toArray, List.map_cons, List.map_nil, Option.map_some, Option.map_none, e0]
          go_simp
          exact hK _ _ rfl (Same.refl _ _)
        · intro ac wc hs hd hz hf hw K hK
          have eg : ac.eval (.tmp 79) = .bool false := hw 20 rfl
          refine run_wanted (j := 20) (d := 79) (b := false) rfl rfl hz (of_decide_eq_true rfl) eg ?_
          clear eg
          have e0 : ac.eval (.tmp 98) = (.pointer (some ⟨(ad.add (k * 14)).block, (ad.add (k * 14)).off + 4, none⟩)) := hw 39 rfl
          have m0 : wc.cell? ⟨(ad.add (k * 14)).block, (ad.add (k * 14)).off + 4, none⟩ = some (.int .i64 o.l.by_.node) := hs.cell (p := ⟨(ad.add (k * 14)).block, (ad.add (k * 14)).off + 4, none⟩) trivial c4
          have m1 : wc.cell? ⟨(ad.add (k * 14)).block, (ad.add (k * 14)).off + 5, none⟩ = some (.int .i64 o.l.by_.life) := hs.cell (p := ⟨(ad.add (k * 14)).block, (ad.add (k * 14)).off + 5, none⟩) trivial c5
          have m2 : wc.cell? ⟨(ad.add (k * 14)).block, (ad.add (k * 14)).off + 6, none⟩ = some (.int .i64 o.l.by_.seq) := hs.cell (p := ⟨(ad.add (k * 14)).block, (ad.add (k * 14)).off + 6, none⟩) trivial c6
          have m3 : wc.cell? ⟨(ad.add (k * 14)).block, (ad.add (k * 14)).off + 7, none⟩ = some (.int .i64 o.l.by_.attempt) := hs.cell (p := ⟨(ad.add (k * 14)).block, (ad.add (k * 14)).off + 7, none⟩) trivial c7
          clear hd hz hf hw
          simp only [Oper.wp, execOp, resolve, List.map_toArray, List.map_cons, List.map_nil, Option.map_some, Option.map_none, e0]
          go_simp
          exact hK _ _ rfl (Same.refl _ _)
        · intro ac wc hs hd hz hf hw K hK
          have eg : ac.eval (.tmp 79) = .bool false := hw 20 rfl
          refine run_wanted (j := 20) (d := 79) (b := false) rfl rfl hz (of_decide_eq_true rfl) eg ?_
          clear eg
          have e0 : ac.eval (.tmp 80) = v1 := hw 21 rfl
          have e1 : ac.eval (.tmp 86) = (.string (str o.w.key)) := hw 27 rfl
          have e2 : ac.eval (.tmp 92) = (stV o.l.at_) := hw 33 rfl
          have e3 : ac.eval (.tmp 93) = (.agg #[.string (str lo), .string (str hi)]) := hw 34 rfl
          have e4 : ac.eval (.tmp 99) = (tryV o.l.by_) := hw 40 rfl
          clear hd hz hf hw
          simp only [Oper.wp, execOp, resolve, List.map_toArray, List.map_cons, List.map_nil, Option.map_some, Option.map_none, e0, e1, e2, e3, e4]
          go_simp
          refine (told_any v1 cx o.w.key o.l.at_ lo hi o.l.by_ 100 (fun q => q < wc.heap.size) wc ((Hx5.out.keepAll hs).reads.mono fun q hq _ => hq) (fun q h => h) Hfo.out.good (Hfo.out.len (by omega)) (Hfo.out.vers (by omega))).mono ?_
          rintro e wd ⟨rfl, hs2⟩
          exact hK _ _ rfl hs2
        · intro ac wc hs hd hz hf hw K hK
          have eg : ac.eval (.tmp 79) = .bool false := hw 20 rfl
          refine run_wanted (j := 20) (d := 79) (b := false) rfl rfl hz (of_decide_eq_true rfl) eg ?_
          clear eg
          have e0 : ac.eval (.tmp 100) = (.bool true) := hw 41 rfl
          clear hd hz hf hw
          simp only [Oper.wp, execOp, resolve, List.map_toArray, List.map_cons, List.map_nil, Option.map_some, Option.map_none, e0]
          go_simp
          exact hK _ _ rfl (Same.refl _ _)
        · intro ac wc hs hd hz hf hw K hK
          have e0 : ac.eval (.tmp 79) = (.bool false) := hw 20 rfl
          have e1 : ac.eval (.tmp 101) = (.bool false) := hw 42 rfl
          clear hd hz hf hw
          simp only [Region.wanted, if_true, Oper.wp, execOp, resolve, List.map_toArray, List.map_cons, List.map_nil, Option.map_some, Option.map_none, e0, e1]
          go_simp
          exact hK _ _ rfl (Same.refl _ _)
      · intro wR hsR
        simp only [putAll, Act.put, List.setIfInBounds_toArray, List.set_cons_succ, List.set_cons_zero]
        have HSR := Lib.hid (HS5.out.trans' hsR fun _ _ _ => trivial)
        have HxR := Lib.hid (Hx5.out.keepAll hsR)
        have HyR := Lib.hid (Hy5.out.keepAll hsR)
        have hwp : 0 < nl → ∃ g cur, Al = some ⟨g, 0, none⟩ ∧ WipeC wR (fun q => B ≤ q ∧ q < wr.heap.size) g cur nl 0 := fun h0 => by
          obtain ⟨g, cur, e1, e2⟩ := Hown.out.wipe h0
          exact ⟨g, cur, e1, e2.keep ((HSw35.out).trans hsR) fun _ _ => trivial⟩
        have Hwp := Lib.hid hwp
        clear hwp hsR
        clear a0 a1 s0 s1 t0 t1 t2 t3 zs
        clear c0 c1 c2 c3 c4 c5 c6 c7 c8 c9 c10 c11 c12 c13
        go_wp2
        obtain ⟨wq, rfl⟩ : ∃ wq : World, wq = wr := ⟨_, rfl⟩
        go_loopw [18, 19] (fun i _ wi => ∃ j : Nat, i = .int .i64 j ∧ j ≤ nl ∧ (0 < nl → ∃ g cur, Al = some ⟨g, 0, none⟩ ∧ WipeC wi (fun q => B ≤ q ∧ q < wq.heap.size) g cur nl j) ∧ Same (fun q => ¬ (B ≤ q ∧ q < wq.heap.size)) wR wi) (fun i _ _ => nl - (intOf i).toNat)
        case atStart => exact ⟨0, rfl, Nat.zero_le _, Hwp.out, Same.refl _ _⟩
        case round =>
          obtain ⟨j, rfl, hj, hwp, hSi⟩ := hrel
          obtain ⟨wo, rfl⟩ : ∃ wo : World, wo = wr := ⟨_, rfl⟩
          have HSi := Lib.hid hSi
          clear hSi
          by_cases hjl : j < nl
          · obtain ⟨g, cur, rfl, hw⟩ := hwp (by omega)
            obtain ⟨u, hcu, huv⟩ := hw.2.2.2 j (Nat.le_refl _) hjl
            obtain ⟨Au, nu, cu, rfl, hu1, hu2, -⟩ := id huv
            unfold maxLen at hu2
            have y1 : (0 : Int) ≤ (j : Int) := by omega
            have y2 : (j : Int) < (nl : Int) := by omega
            have d1 : wo.cell? ⟨g, j * 12 + 1, none⟩ = some (.slice Au nu cu) := by rw [hw.2.1.cell]; exact hcu
            have Hw := Lib.hid hw
            have Hcu := Lib.hid hcu
            have hSg := hw.1
            clear hw hcu huv hwp
            go_wp2
            clear d1
            go_loopw [19] (fun i wi => ∃ m : Nat, i = .int .i64 m ∧ m ≤ nu ∧ WipeC wi (fun q => B ≤ q ∧ q < wq.heap.size) g cur nl j ∧ Same (fun q => ¬ (B ≤ q ∧ q < wq.heap.size)) wR wi) (fun i _ => nu - (intOf i).toNat)
            case atStart => exact ⟨0, rfl, Nat.zero_le _, Hw.out, HSi.out⟩
            case round =>
              obtain ⟨m, rfl, hmn, hw, hSm⟩ := hrel
              have HSm := Lib.hid hSm
              have Hwm := Lib.hid hw
              have d1 : wr.cell? ⟨g, j * 12 + 1, none⟩ = some (.slice Au nu cu) := by rw [hw.2.1.cell]; exact Hcu.out
              obtain ⟨u', hcu', huv⟩ := hw.2.2.2 j (Nat.le_refl _) hjl
              obtain rfl : u' = .slice Au nu cu := by
                have := Hcu.out
                rw [hcu'] at this
                exact Option.some.inj this
              clear hSm hcu'
              by_cases hml : m < nu
              · obtain ⟨gv, ov, rfl, hSv, hgv, hcv, ⟨u0, u1, u2, u3, p0, p1, p2, p3⟩, f0, f1, f2, f3⟩ := huv.cells hml
                obtain ⟨cv, hcv⟩ := hcv
                have hne := hw.ne hcv
                have y3 : (0 : Int) ≤ (m : Int) := by omega
                have y4 : (m : Int) < (nu : Int) := by omega
                clear hw hcv huv
                go_wp2
                go_roundw
                case rel =>
                  exact ⟨m + 1, by go_num, by omega, Hwm.out.ver4 hne _ _ _ _, HSm.out.ver4 (fun h => h hSv) _ _ _ _⟩
                case measure => simp [intOf]; omega
              · obtain rfl : m = nu := by omega
                obtain ⟨h12, hfz⟩ := hw.all12 hjl
                obtain ⟨q0, e0⟩ := h12 0 (by omega)
                obtain ⟨q1, e1⟩ := h12 1 (by omega)
                obtain ⟨q2, e2⟩ := h12 2 (by omega)
                obtain ⟨q3, e3⟩ := h12 3 (by omega)
                obtain ⟨q4, e4⟩ := h12 4 (by omega)
                obtain ⟨q5, e5⟩ := h12 5 (by omega)
                obtain ⟨q6, e6⟩ := h12 6 (by omega)
                obtain ⟨q7, e7⟩ := h12 7 (by omega)
                obtain ⟨q8, e8⟩ := h12 8 (by omega)
                obtain ⟨q9, e9⟩ := h12 9 (by omega)
                obtain ⟨q10, e10⟩ := h12 10 (by omega)
                obtain ⟨q11, e11⟩ := h12 11 (by omega)
                rw [Nat.add_zero] at e0
                have f0 := hfz (j * 12)
                have f1 := hfz (j * 12 + 1)
                have f2 := hfz (j * 12 + 2)
                have f3 := hfz (j * 12 + 3)
                have f4 := hfz (j * 12 + 4)
                have f5 := hfz (j * 12 + 5)
                have f6 := hfz (j * 12 + 6)
                have f7 := hfz (j * 12 + 7)
                have f8 := hfz (j * 12 + 8)
                have f9 := hfz (j * 12 + 9)
                have f10 := hfz (j * 12 + 10)
                have f11 := hfz (j * 12 + 11)
                clear hw h12 hfz huv
                go_wp2
                go_roundw
                case rel =>
                  exact ⟨j + 1, by go_num, by omega, fun _ => ⟨g, (Hwm.out.zero12 _ _ _ _ _ _ _ _ _ _ _ _).imp fun _ h => ⟨rfl, h⟩⟩, HSm.out.zero12 (fun h => h hSg) _ _ _ _ _ _ _ _ _ _ _ _⟩
                case measure => simp [intOf]; omega
          · obtain rfl : j = nl := by omega
            have HSR2 := Lib.hid (HSR.out.trans' HSi.out fun q hq hqB => by omega)
            have Hx6 := Lib.hid (HxR.out.keep HSi.out fun q hq _ => by omega)
            have Hy6 := Lib.hid (HyR.out.keep HSi.out fun q hq _ => by omega)
            have hB3 : B ≤ w3.heap.size := by have := HS.out.size; omega
            clear hwp
            go_wp2_with (go_at_call 29; refine stopAt ?_)
            unfold Hid
            refine (same_any v1 v2 cx _ _ wo Hx6.out.reads Hy6.out.reads (Hfo.out.len (by omega)) (Hfo.out.vers (by omega))).mono ?_
            rintro e w7 ⟨rfl, hS7⟩
            have HS7 := Lib.hid (HSR2.out.trans' hS7 fun _ _ _ => trivial)
            have Hx7 := Lib.hid ((Hx6.out.keepAll hS7).lower hB3)
            clear hS7
            go_wp2
            go_roundw
            case rel => exact ⟨k + 1, by go_num, by omega, by rw [← Hcx.out]; exact Hx7.out, HS7.out⟩
            case measure => simp [intOf]; omega
    · obtain rfl : k = ops.length := by omega
      have HSw := Lib.hid (HS1.out.trans' HS.out fun i hi _ => by have := HBe.out; have := HS1.out.size; omega : Same (fun _ => True) w wr)
      clear hown hS hf
      go_wp2
      go_ret
      exact ⟨rfl, HSw.out⟩
end Go.Proofs.Ytoldelocfmpccaa
