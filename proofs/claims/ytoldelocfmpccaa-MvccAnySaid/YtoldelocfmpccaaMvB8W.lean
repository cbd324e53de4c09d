/-
  MvccAny: what any cells that may be tell, and which may be: the walk.
-/
import Derived.Test.YtoldelocfmpccaaMvTdW
import Derived.Test.YtoldelocfmpccaaMvLiW
set_option linter.unusedSimpArgs false
set_option linter.unusedVariables false
namespace Go.Proofs.Ytoldelocfmpccaa
open Go.RowKit Go.ChangeShapes Go.WideShapes Go.ChangeAt

theorem cOp_else {w w' : World} {S S' : Nat → Prop} {us : List Value} {o : OpT} (h : cOp.ok w S us o) : cOp.ok w' S' us o := h
theorem light_one {w : World} {g : Nat} {o : OpT} (h : Row w g 37 (opCs o)) (ho : cOp.ok w (fun _ => True) (opCs o) o) : Calls Try.prog 22 #[.slice (some ⟨g, 0, none⟩) 1 1, .int .i64 1] w (LightP 1 [o] w) := by
  refine light_any (.slice (some ⟨g, 0, none⟩) 1 1) [o] 1 (fun _ => True) w ⟨_, 1, rfl, Nat.le_refl _, by simp [maxLen], fun i x hx => ?_⟩ (by omega)
  cases i with
  | zero =>
    obtain rfl : o = x := by simpa using hx
    refine ⟨_, opCs o, rfl, trivial, fun j u hu => ?_, ho⟩
    rw [Nat.zero_mul, Nat.zero_add, add_none, h.cell, Nat.zero_add]
    exact hu
  | succ i => simp at hx
set_option maxRecDepth 100000 in
theorem open_op8 {H : Type} {enc : TypeId × Value → H} {W : World} {base : Nat} {v : Value} {d : DataW H} {ps : List MemPlace} (hval : Value.okWide Try.prog W .any base 37 v)
    (h : DataW.Trod enc Try.prog W 0 (fun _ => true) true 37 v d ps) : ∃ o : OpT, v = opV o ∧ ∀ w, cOp.ok w (fun _ => True) (opCs o) o := by
  obtain ⟨t, ht⟩ := cOp.arg h
  obtain ⟨h1, _, _⟩ := cOp_ok ht
  exact ⟨t, agg_of h1 (by simp [opCs]), fun w => by rw [h1] at ht; exact cOp_else ht⟩
set_option maxRecDepth 100000 in
set_option maxHeartbeats 8000000 in
theorem any_walk (v : Value) (cs : List Cel) (key : List UInt8) (a : St) (lo hi : List UInt8) (b : TryT) (most : Int) (o : OpT) (w : World) (hv : CelR w (· < w.heap.size) v cs) (hcl : CelL cs) (hk3 : key.length ≤ 9223372036854775807) (ho : ∀ w, cOp.ok w (fun _ => True) (opCs o) o) :
    Calls Try.prog 10 #[v, .string (str key), stV a, .agg #[.string (str lo), .string (str hi)], tryV b, .int .i64 most, opV o] w fun e w' => e = .returned (.bool true) ∧ Same (fun _ => True) w w' := by
  obtain ⟨A, cp, rfl, hc, hm⟩ := hv.form
  have r0 := (((Row.new w 28 (stCs a)).keep ((Same.refl (fun _ => True) _).alloc (.cells ([.string (str lo), .string (str hi)]).toArray 53)) trivial).keep ((Same.refl (fun _ => True) _).alloc (.cells (tryCs b).toArray 26)) trivial).keep ((Same.refl (fun _ => True) _).alloc (.cells (opCs o).toArray 37)) trivial
  have r1 := ((Row.new (w.alloc (.cells (stCs a).toArray 28)) 53 [.string (str lo), .string (str hi)]).keep ((Same.refl (fun _ => True) _).alloc (.cells (tryCs b).toArray 26)) trivial).keep ((Same.refl (fun _ => True) _).alloc (.cells (opCs o).toArray 37)) trivial
  have r2 := (Row.new ((w.alloc (.cells (stCs a).toArray 28)).alloc (.cells ([.string (str lo), .string (str hi)]).toArray 53)) 26 (tryCs b)).keep ((Same.refl (fun _ => True) _).alloc (.cells (opCs o).toArray 37)) trivial
  have r3 := Row.new (((w.alloc (.cells (stCs a).toArray 28)).alloc (.cells ([.string (str lo), .string (str hi)]).toArray 53)).alloc (.cells (tryCs b).toArray 26)) 37 (opCs o)
  have hS0 := ((((Same.refl (fun _ => True) w).alloc (.cells (stCs a).toArray 28)).alloc (.cells ([.string (str lo), .string (str hi)]).toArray 53)).alloc (.cells (tryCs b).toArray 26)).alloc (.cells (opCs o).toArray 37)
  rw [World.size_alloc] at r1
  rw [World.size_alloc, World.size_alloc] at r2
  rw [World.size_alloc, World.size_alloc, World.size_alloc] at r3
  have R0 := Lib.hid r0
  have R1 := Lib.hid r1
  have R2 := Lib.hid r2
  have R3 := Lib.hid r3
  have HS0 := Lib.hid hS0
  have Hv := Lib.hid hv
  have HL := Lib.hid hcl
  have Ho := Lib.hid ho
  unfold maxLen at hm
  clear hv hcl ho r0 r1 r2 r3 hS0
  go_enter Try.func10, Try.ntmps10
  go_wp2_with (go_at_call 21; refine stopAt ?_)
  unfold Hid
  refine (begun_any _).mono ?_
  rintro e w1 ⟨rfl, hS1⟩
  have HS1 := Lib.hid (HS0.out.trans hS1)
  have RA := Lib.hid (R0.out.keep hS1 trivial)
  have RS := Lib.hid (R1.out.keep hS1 trivial)
  have RT := Lib.hid (R2.out.keep hS1 trivial)
  have RO := Lib.hid (R3.out.keep hS1 trivial)
  have Hv1 := Lib.hid (Hv.out.keepAll HS1.out)
  clear hS1 R0 R1 R2 R3 HS0
  have ra_ := RA.out.keep (Same.refl (fun _ => True) w1) trivial
  have rs_ := RS.out.keep (Same.refl (fun _ => True) w1) trivial
  have rt_ := RT.out.keep (Same.refl (fun _ => True) w1) trivial
  have ro_ := RO.out.keep (Same.refl (fun _ => True) w1) trivial
  have a0 : w1.cell? ⟨w.heap.size, 0, none⟩ = some (.int .i64 a.wall) := ra_.cell 0
  have a1 : w1.cell? ⟨w.heap.size, 1, none⟩ = some (.int .i64 a.tie) := ra_.cell 1
  have s0 : w1.cell? ⟨w.heap.size + 1, 0, none⟩ = some (.string (str lo)) := rs_.cell 0
  have s1 : w1.cell? ⟨w.heap.size + 1, 1, none⟩ = some (.string (str hi)) := rs_.cell 1
  have t0 : w1.cell? ⟨w.heap.size + 2, 0, none⟩ = some (.int .i64 b.node) := rt_.cell 0
  have t1 : w1.cell? ⟨w.heap.size + 2, 1, none⟩ = some (.int .i64 b.life) := rt_.cell 1
  have t2 : w1.cell? ⟨w.heap.size + 2, 2, none⟩ = some (.int .i64 b.seq) := rt_.cell 2
  have t3 : w1.cell? ⟨w.heap.size + 2, 3, none⟩ = some (.int .i64 b.attempt) := rt_.cell 3
  have o0 : w1.cell? ⟨w.heap.size + 3, 0, none⟩ = some (.int .i64 o.kind) := ro_.cell 0
  have o1 : w1.cell? ⟨w.heap.size + 3, 1, none⟩ = some (.string (str o.w.key)) := ro_.cell 1
  have o2 : w1.cell? ⟨w.heap.size + 3, 2, none⟩ = some (.bool o.w.drop) := ro_.cell 2
  have o3 : w1.cell? ⟨w.heap.size + 3, 3, none⟩ = some (.string (str o.w.data)) := ro_.cell 3
  have o4 : w1.cell? ⟨w.heap.size + 3, 4, none⟩ = some (.int .i64 o.l.by_.node) := ro_.cell 4
  have o5 : w1.cell? ⟨w.heap.size + 3, 5, none⟩ = some (.int .i64 o.l.by_.life) := ro_.cell 5
  have o6 : w1.cell? ⟨w.heap.size + 3, 6, none⟩ = some (.int .i64 o.l.by_.seq) := ro_.cell 6
  have o7 : w1.cell? ⟨w.heap.size + 3, 7, none⟩ = some (.int .i64 o.l.by_.attempt) := ro_.cell 7
  have o8 : w1.cell? ⟨w.heap.size + 3, 8, none⟩ = some (.int .i64 o.l.home) := ro_.cell 8
  have o9 : w1.cell? ⟨w.heap.size + 3, 9, none⟩ = some (.int .i64 o.l.at_.wall) := ro_.cell 9
  have o10 : w1.cell? ⟨w.heap.size + 3, 10, none⟩ = some (.int .i64 o.l.at_.tie) := ro_.cell 10
  have o11 : w1.cell? ⟨w.heap.size + 3, 11, none⟩ = some (.bool o.l.drop) := ro_.cell 11
  have o12 : w1.cell? ⟨w.heap.size + 3, 12, none⟩ = some (.string (str o.l.data)) := ro_.cell 12
  have o13 : w1.cell? ⟨w.heap.size + 3, 13, none⟩ = some (.bool o.yes) := ro_.cell 13
  have zs := ro_.lt
  clear ra_ rs_ rt_ ro_
  go_wp2_with (go_at_call 36; refine stopAt ?_)
  unfold Hid
  refine (lightc_any (.slice A cs.length cp) cs _ w1 Hv1.out HL.out).mono ?_
  rintro e w2 ⟨bl, rfl, hbl, rfl⟩
  cases bl
  · clear hbl
    go_wp2
    go_ret
    exact ⟨rfl, HS1.out⟩
  obtain ⟨hn, hn2⟩ := hbl rfl
  have Hn2 := Lib.hid (show ∀ c ∈ cs, c.vers.length ≤ 1000000 from fun c hc => by have := hn2 c hc; omega)
  have hn3 : cs.length ≤ 100000 := by omega
  have Hfew := Lib.hid (show Few 60 cs from ⟨hn, fun c hc => by have := hn2 c hc; omega⟩)
  clear hbl hn hn2
  have z4 : (str key).size = key.length := str_size _
  by_cases hkl : (100 : Int) < key.length
  · go_wp2
    go_ret
    exact ⟨rfl, HS1.out⟩
  go_wp2_with (go_at_call 22; refine stopAt ?_)
  unfold Hid
  clear a0 a1 s0 s1 t0 t1 t2 t3 zs o0 o1 o2 o3 o4 o5 o6 o7 o8 o9 o10 o11 o12 o13
  generalize hW : World.alloc w1 _ = w3
  have ro3 : Row w3 w1.heap.size 37 (opCs o) := by rw [← hW]; exact Row.new w1 37 (opCs o)
  have hS3 : Same (fun _ => True) w1 w3 := by rw [← hW]; exact (Same.refl _ _).alloc _
  refine (light_one ro3 (Ho.out w3)).mono ?_
  rintro e w4 ⟨bl, rfl, -, rfl⟩
  have HS3 := Lib.hid hS3
  have Hv3 := Lib.hid (Hv1.out.keepAll hS3)
  clear hW ro3 hS3
  cases bl
  · go_wp2
    go_ret
    exact ⟨rfl, HS1.out.trans HS3.out⟩
  go_wp2_with (go_at_call 37; refine stopAt ?_)
  unfold Hid
  refine (refmay_all (.slice A cs.length cp) cs _ w3 Hv3.out hn3 Hn2.out).mono ?_
  rintro e w4 ⟨mb, rfl, hmb, hS4⟩
  have HS4 := Lib.hid (HS3.out.trans hS4)
  have Hv4 := Lib.hid (Hv3.out.keepAll hS4)
  clear hS4
  cases mb
  · have hng : ¬ Good cs := fun g => (by cases hmb.2 g)
    have HN := Lib.hid hng
    clear hmb hng
    go_wp2_with (go_at_call 31; refine stopAt ?_)
    unfold Hid
    refine (mvmay_all (.slice A cs.length cp) cs _ w4 Hv4.out hn3 Hn2.out).mono ?_
    rintro e w5 ⟨mb, rfl, hmb, hS5⟩
    have HS5 := Lib.hid (HS4.out.trans hS5)
    obtain rfl : mb = false := by
      cases mb
      · rfl
      · exact absurd (hmb.1 rfl) HN.out
    clear hmb hS5
    go_wp2
    go_ret
    exact ⟨rfl, HS1.out.trans HS5.out⟩
  have Hg := Lib.hid (hmb.1 rfl)
  clear hmb
  have ra_ := RA.out.keep HS4.out trivial
  have rs_ := RS.out.keep HS4.out trivial
  have rt_ := RT.out.keep HS4.out trivial
  have ro_ := RO.out.keep HS4.out trivial
  have a0 : w4.cell? ⟨w.heap.size, 0, none⟩ = some (.int .i64 a.wall) := ra_.cell 0
  have a1 : w4.cell? ⟨w.heap.size, 1, none⟩ = some (.int .i64 a.tie) := ra_.cell 1
  have s0 : w4.cell? ⟨w.heap.size + 1, 0, none⟩ = some (.string (str lo)) := rs_.cell 0
  have s1 : w4.cell? ⟨w.heap.size + 1, 1, none⟩ = some (.string (str hi)) := rs_.cell 1
  have t0 : w4.cell? ⟨w.heap.size + 2, 0, none⟩ = some (.int .i64 b.node) := rt_.cell 0
  have t1 : w4.cell? ⟨w.heap.size + 2, 1, none⟩ = some (.int .i64 b.life) := rt_.cell 1
  have t2 : w4.cell? ⟨w.heap.size + 2, 2, none⟩ = some (.int .i64 b.seq) := rt_.cell 2
  have t3 : w4.cell? ⟨w.heap.size + 2, 3, none⟩ = some (.int .i64 b.attempt) := rt_.cell 3
  have o0 : w4.cell? ⟨w.heap.size + 3, 0, none⟩ = some (.int .i64 o.kind) := ro_.cell 0
  have o1 : w4.cell? ⟨w.heap.size + 3, 1, none⟩ = some (.string (str o.w.key)) := ro_.cell 1
  have o2 : w4.cell? ⟨w.heap.size + 3, 2, none⟩ = some (.bool o.w.drop) := ro_.cell 2
  have o3 : w4.cell? ⟨w.heap.size + 3, 3, none⟩ = some (.string (str o.w.data)) := ro_.cell 3
  have o4 : w4.cell? ⟨w.heap.size + 3, 4, none⟩ = some (.int .i64 o.l.by_.node) := ro_.cell 4
  have o5 : w4.cell? ⟨w.heap.size + 3, 5, none⟩ = some (.int .i64 o.l.by_.life) := ro_.cell 5
  have o6 : w4.cell? ⟨w.heap.size + 3, 6, none⟩ = some (.int .i64 o.l.by_.seq) := ro_.cell 6
  have o7 : w4.cell? ⟨w.heap.size + 3, 7, none⟩ = some (.int .i64 o.l.by_.attempt) := ro_.cell 7
  have o8 : w4.cell? ⟨w.heap.size + 3, 8, none⟩ = some (.int .i64 o.l.home) := ro_.cell 8
  have o9 : w4.cell? ⟨w.heap.size + 3, 9, none⟩ = some (.int .i64 o.l.at_.wall) := ro_.cell 9
  have o10 : w4.cell? ⟨w.heap.size + 3, 10, none⟩ = some (.int .i64 o.l.at_.tie) := ro_.cell 10
  have o11 : w4.cell? ⟨w.heap.size + 3, 11, none⟩ = some (.bool o.l.drop) := ro_.cell 11
  have o12 : w4.cell? ⟨w.heap.size + 3, 12, none⟩ = some (.string (str o.l.data)) := ro_.cell 12
  have o13 : w4.cell? ⟨w.heap.size + 3, 13, none⟩ = some (.bool o.yes) := ro_.cell 13
  have zs := ro_.lt
  clear ra_ rs_ rt_ ro_
  go_wp2_with (go_at_call 23; refine stopAt ?_)
  unfold Hid
  refine (do_any (.slice A cs.length cp) cs o _ w4 Hv4.out Hg.out hn3 Hn2.out).mono ?_
  rintro e w5 ⟨v1, v2, rfl, hx5, hy5, hS5⟩
  have HS5 := Lib.hid (HS4.out.trans hS5)
  have Hv5 := Lib.hid (Hv4.out.keepAll hS5)
  have Hx5 := Lib.hid hx5
  have Hy5 := Lib.hid hy5
  have Hf5 := Lib.hid (show Fine 61 (opF cs o) from ⟨opF_good Hg.out o, opF_few Hg.out Hfew.out o⟩)
  clear hx5 hy5 hS5
  clear a0 a1 s0 s1 t0 t1 t2 t3 zs o0 o1 o2 o3 o4 o5 o6 o7 o8 o9 o10 o11 o12 o13
  have ra_ := RA.out.keep HS5.out trivial
  have rs_ := RS.out.keep HS5.out trivial
  have rt_ := RT.out.keep HS5.out trivial
  have ro_ := RO.out.keep HS5.out trivial
  have a0 : w5.cell? ⟨w.heap.size, 0, none⟩ = some (.int .i64 a.wall) := ra_.cell 0
  have a1 : w5.cell? ⟨w.heap.size, 1, none⟩ = some (.int .i64 a.tie) := ra_.cell 1
  have s0 : w5.cell? ⟨w.heap.size + 1, 0, none⟩ = some (.string (str lo)) := rs_.cell 0
  have s1 : w5.cell? ⟨w.heap.size + 1, 1, none⟩ = some (.string (str hi)) := rs_.cell 1
  have t0 : w5.cell? ⟨w.heap.size + 2, 0, none⟩ = some (.int .i64 b.node) := rt_.cell 0
  have t1 : w5.cell? ⟨w.heap.size + 2, 1, none⟩ = some (.int .i64 b.life) := rt_.cell 1
  have t2 : w5.cell? ⟨w.heap.size + 2, 2, none⟩ = some (.int .i64 b.seq) := rt_.cell 2
  have t3 : w5.cell? ⟨w.heap.size + 2, 3, none⟩ = some (.int .i64 b.attempt) := rt_.cell 3
  have o0 : w5.cell? ⟨w.heap.size + 3, 0, none⟩ = some (.int .i64 o.kind) := ro_.cell 0
  have o1 : w5.cell? ⟨w.heap.size + 3, 1, none⟩ = some (.string (str o.w.key)) := ro_.cell 1
  have o2 : w5.cell? ⟨w.heap.size + 3, 2, none⟩ = some (.bool o.w.drop) := ro_.cell 2
  have o3 : w5.cell? ⟨w.heap.size + 3, 3, none⟩ = some (.string (str o.w.data)) := ro_.cell 3
  have o4 : w5.cell? ⟨w.heap.size + 3, 4, none⟩ = some (.int .i64 o.l.by_.node) := ro_.cell 4
  have o5 : w5.cell? ⟨w.heap.size + 3, 5, none⟩ = some (.int .i64 o.l.by_.life) := ro_.cell 5
  have o6 : w5.cell? ⟨w.heap.size + 3, 6, none⟩ = some (.int .i64 o.l.by_.seq) := ro_.cell 6
  have o7 : w5.cell? ⟨w.heap.size + 3, 7, none⟩ = some (.int .i64 o.l.by_.attempt) := ro_.cell 7
  have o8 : w5.cell? ⟨w.heap.size + 3, 8, none⟩ = some (.int .i64 o.l.home) := ro_.cell 8
  have o9 : w5.cell? ⟨w.heap.size + 3, 9, none⟩ = some (.int .i64 o.l.at_.wall) := ro_.cell 9
  have o10 : w5.cell? ⟨w.heap.size + 3, 10, none⟩ = some (.int .i64 o.l.at_.tie) := ro_.cell 10
  have o11 : w5.cell? ⟨w.heap.size + 3, 11, none⟩ = some (.bool o.l.drop) := ro_.cell 11
  have o12 : w5.cell? ⟨w.heap.size + 3, 12, none⟩ = some (.string (str o.l.data)) := ro_.cell 12
  have o13 : w5.cell? ⟨w.heap.size + 3, 13, none⟩ = some (.bool o.yes) := ro_.cell 13
  have zs := ro_.lt
  clear ra_ rs_ rt_ ro_
  go_wp2_with (go_at_call 35; refine stopAt ?_)
  unfold Hid
  refine (told_any (.slice A cs.length cp) cs key a lo hi b most _ w5 Hv5.out (fun q hq => by have := (HS1.out.trans HS5.out).size; omega) Hg.out hn3 Hn2.out).mono ?_
  rintro e w6 ⟨rfl, hS6⟩
  have HS6 := Lib.hid (HS5.out.trans hS6)
  have Hx6 := Lib.hid (Hx5.out.keepAll hS6)
  have Hy6 := Lib.hid (Hy5.out.keepAll hS6)
  clear hS6
  clear a0 a1 s0 s1 t0 t1 t2 t3 zs o0 o1 o2 o3 o4 o5 o6 o7 o8 o9 o10 o11 o12 o13
  go_wp2_with (go_at_call 29; refine stopAt ?_)
  unfold Hid
  refine (same_any v1 v2 (opF cs o) _ _ w6 Hx6.out.reads Hy6.out.reads (Hf5.out.len (by omega)) (Hf5.out.vers (by omega))).mono ?_
  rintro e w7 ⟨rfl, hS7⟩
  have HS7 := Lib.hid (HS6.out.trans hS7)
  clear hS7
  go_wp2
  go_ret
  exact ⟨rfl, HS1.out.trans HS7.out⟩
end Go.Proofs.Ytoldelocfmpccaa
