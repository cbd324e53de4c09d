/-
  MvccTurns: for all operations, two attempts may be settled in either order.
-/
import Derived.Test.YtoldelocfmpccaaQ15
set_option linter.unusedSimpArgs false
set_option linter.unusedVariables false
namespace Go.Proofs.Ytoldelocfmpccaa
open Go.RowKit Go.ChangeShapes Go.WideShapes Go.ChangeAt

theorem try_runeq (a b : TryT) (w : World) : (binOp .eql 26 (tryV a) (tryV b)).run Try.prog w = .ok (.bool (a == b)) w := by
  have e : (a == b) = (a.node == b.node && (a.life == b.life && (a.seq == b.seq && a.attempt == b.attempt))) := by
    rw [Bool.eq_iff_iff]; cases a; cases b; simp
  rw [e]
  go_simp
  cases h1 : a.node == b.node <;> cases h2 : a.life == b.life <;> cases h3 : a.seq == b.seq <;> cases h4 : a.attempt == b.attempt <;> simp_all
theorem try_ne {a b : TryT} (h : a ≠ b) (w : World) : (binOp .eql 26 (tryV a) (tryV b)).run Try.prog w = .ok (.bool false) w := by
  have e : (a == b) = false := by simpa using h
  rw [try_runeq, e]

set_option maxRecDepth 100000 in
set_option maxHeartbeats 4000000 in
theorem turns_walk (v : Value) (ops : List OpT) (a b : TryT) (x y : Bool) (w : World) (hv : OpsR w (fun q => q < w.heap.size) v ops) :
    Calls Try.prog 4 #[v, tryV a, tryV b, .bool x, .bool y] w fun e w' => e = .returned (.bool true) ∧ Same (fun _ => True) w w' := by
  have hv' := hv
  obtain ⟨A, c, rfl, hc, hm, -⟩ := hv'
  have Hops := Lib.hid hv
  obtain ⟨B, hBe⟩ : ∃ B, B = w.heap.size := ⟨_, rfl⟩
  have HBe := Lib.hid hBe
  have ra := (Row.new w 26 (tryCs a)).keep ((Same.refl (fun _ => True) _).alloc (.cells (tryCs b).toArray 26)) trivial
  have rb := Row.new (w.alloc (.cells (tryCs a).toArray 26)) 26 (tryCs b)
  rw [World.size_alloc] at rb
  have hS0 := ((Same.refl (fun _ => True) w).alloc (.cells (tryCs a).toArray 26)).alloc (.cells (tryCs b).toArray 26)
  have RA := Lib.hid ra
  have RB := Lib.hid rb
  have HS0 := Lib.hid hS0
  unfold maxLen at hm
  clear hv ra rb hS0 hBe
  go_enter Try.func4, Try.ntmps4
  go_wp2_with (go_at_call 21; refine stopAt ?_)
  unfold Hid
  refine (begun_any _).mono ?_
  rintro e w1 ⟨rfl, hS1⟩
  have HS1 := Lib.hid (HS0.out.trans hS1)
  have RA1 := Lib.hid (RA.out.keep hS1 trivial)
  have RB1 := Lib.hid (RB.out.keep hS1 trivial)
  clear hS1
  have z1 := RB1.out.lt
  have ra_ := RA1.out.keep (Same.refl (fun _ => True) w1) trivial
  have rb_ := RB1.out.keep (Same.refl (fun _ => True) w1) trivial
  have s0 : w1.cell? ⟨w.heap.size, 0, none⟩ = some (.int .i64 a.node) := ra_.cell 0
  have s1 : w1.cell? ⟨w.heap.size, 1, none⟩ = some (.int .i64 a.life) := ra_.cell 1
  have s2 : w1.cell? ⟨w.heap.size, 2, none⟩ = some (.int .i64 a.seq) := ra_.cell 2
  have s3 : w1.cell? ⟨w.heap.size, 3, none⟩ = some (.int .i64 a.attempt) := ra_.cell 3
  have t0 : w1.cell? ⟨w.heap.size + 1, 0, none⟩ = some (.int .i64 b.node) := rb_.cell 0
  have t1 : w1.cell? ⟨w.heap.size + 1, 1, none⟩ = some (.int .i64 b.life) := rb_.cell 1
  have t2 : w1.cell? ⟨w.heap.size + 1, 2, none⟩ = some (.int .i64 b.seq) := rb_.cell 2
  have t3 : w1.cell? ⟨w.heap.size + 1, 3, none⟩ = some (.int .i64 b.attempt) := rb_.cell 3
  have zs := rb_.lt
  clear ra_ rb_
  go_wp2_with (go_at_call 22; refine stopAt ?_)
  unfold Hid
  refine (light_any (.slice A ops.length c) ops 40 _ w1 (SlOf.keep Hops.out (HS1.out.mono fun _ _ _ => trivial)) (by omega)).mono ?_
  rintro e w2 ⟨bl, rfl, hbl, rfl⟩
  cases bl
  · clear hbl
    go_wp2
    go_ret
    exact ⟨rfl, HS1.out⟩
  have hn := hbl rfl
  clear hbl
  by_cases hab : a = b
  · subst hab
    go_wp2
    go_ret
    exact ⟨rfl, HS1.out⟩
  have Hab := Lib.hid hab
  have qE := try_ne hab
  clear hab
  go_wp2
  clear qE
  clear s0 s1 s2 s3 t0 t1 t2 t3 zs
  go_loopw [11, 12] (fun v i wr => ∃ k : Nat, i = .int .i64 k ∧ k ≤ ops.length ∧ OwnC wr B v (runF (ops.take k)) ∧ Same (fun _ => True) w1 wr) (fun _ i _ => ops.length - (intOf i).toNat)
  case atStart => exact ⟨0, rfl, Nat.zero_le _, OwnC.nil _ _, Same.refl _ _⟩
  case round =>
    obtain ⟨k, rfl, hk, hown, hS⟩ := hrel
    have hf := run_fine ops k hk
    obtain ⟨Al, nl, cl, rfl, hl1, hl2⟩ := hown.form3
    have HS := Lib.hid hS
    have Hown := Lib.hid hown
    unfold maxLen at hl2
    by_cases hlt : k < ops.length
    · obtain ⟨ad, rfl, -, -, c0, hcs⟩ := ops_at (SlOf.keep Hops.out ((HS1.out.trans hS).mono fun _ _ _ => trivial)) hlt
      have x1 : (0 : Int) ≤ (k : Int) := by omega
      have x2 : (k : Int) < (ops.length : Int) := by omega
      have c1 := hcs 1 (by omega) (by omega)
      have c2 := hcs 2 (by omega) (by omega)
      have c3 := hcs 3 (by omega) (by omega)
      have c4 := hcs 4 (by omega) (by omega)
      have c5 := hcs 5 (by omega) (by omega)
      have c6 := hcs 6 (by omega) (by omega)
      have c7 := hcs 7 (by omega) (by omega)
      have c8 := hcs 8 (by omega) (by omega)
      have c9 := hcs 9 (by omega) (by omega)
      have c10 := hcs 10 (by omega) (by omega)
      have c11 := hcs 11 (by omega) (by omega)
      have c12 := hcs 12 (by omega) (by omega)
      have c13 := hcs 13 (by omega) (by omega)
      simp only [opCs, List.getElem?_cons_zero, List.getElem?_cons_succ] at c1 c2 c3 c4 c5 c6 c7 c8 c9 c10 c11 c12 c13
      have hst := runF_step hlt
      have gd := do_any (.slice Al nl cl) (runF (ops.take k)) ops[k] _ wr hown.reads hf.good (hf.len (by omega)) (hf.vers (by omega))
      rw [← hst] at gd
      have Hst := Lib.hid hst
      have hB := (HS1.out.trans hS).size
      clear hcs hown hS hf hst
      generalize ops[k] = o at *
      go_wp2_with (go_at_call 23; refine stopAt ?_)
      unfold Hid
      refine gd.mono ?_
      rintro e w5 ⟨v1, v2, rfl, hown5, -, hS5⟩
      have Hown5 := Lib.hid (hown5.lower (B' := B) (by rw [HBe.out]; exact hB))
      have HS5 := Lib.hid (HS.out.trans hS5)
      clear hown5 hS5 gd c0 c1 c2 c3 c4 c5 c6 c7 c8 c9 c10 c11 c12 c13
      go_wp2
      go_roundw
      case rel => exact ⟨k + 1, by go_num, by omega, Hown5.out, HS5.out⟩
      case measure => simp [intOf]; omega
    · obtain rfl : k = ops.length := by omega
      rw [List.take_length] at Hown hf
      obtain ⟨cs, hcs⟩ : ∃ cs, cs = runF ops := ⟨_, rfl⟩
      rw [← hcs] at Hown hf
      have Hf := Lib.hid hf
      clear hown hf hcs
      have hB : B ≤ wr.heap.size := by rw [HBe.out]; exact (HS1.out.trans HS.out).size
      have ra_ := RA1.out.keep HS.out trivial
      have rb_ := RB1.out.keep HS.out trivial
      have s0 : wr.cell? ⟨w.heap.size, 0, none⟩ = some (.int .i64 a.node) := ra_.cell 0
      have s1 : wr.cell? ⟨w.heap.size, 1, none⟩ = some (.int .i64 a.life) := ra_.cell 1
      have s2 : wr.cell? ⟨w.heap.size, 2, none⟩ = some (.int .i64 a.seq) := ra_.cell 2
      have s3 : wr.cell? ⟨w.heap.size, 3, none⟩ = some (.int .i64 a.attempt) := ra_.cell 3
      have t0 : wr.cell? ⟨w.heap.size + 1, 0, none⟩ = some (.int .i64 b.node) := rb_.cell 0
      have t1 : wr.cell? ⟨w.heap.size + 1, 1, none⟩ = some (.int .i64 b.life) := rb_.cell 1
      have t2 : wr.cell? ⟨w.heap.size + 1, 2, none⟩ = some (.int .i64 b.seq) := rb_.cell 2
      have t3 : wr.cell? ⟨w.heap.size + 1, 3, none⟩ = some (.int .i64 b.attempt) := rb_.cell 3
      have zs := rb_.lt
      clear ra_ rb_
      clear hS
      have Hf0 := Lib.hid Hf.out
      have Hf1 := Lib.hid (Hf.out.setl a x)
      have Hf2 := Lib.hid ((Hf.out.setl a x).setl b y)
      have Hf3 := Lib.hid (Hf.out.setl b y)
      have Heq1 := Lib.hid (turn_plain cs a b Hab.out x y).symm
      have Heq2 := Lib.hid (twice_plain cs a x)
      go_wp2
      refine wp_region_vals_lit (L := [.eq (.slice Al nl cl), .eq (tryV a), .eq (.bool x), ⟨fun v w => OwnC w B v (setlF cs a x), fun _ _ _ h k => h.keepAll k⟩, .eq (tryV b), .eq (.bool y), ⟨fun v w => OwnC w B v (setlF (setlF cs a x) b y), fun _ _ _ h k => h.keepAll k⟩, .eq (.slice Al nl cl), .eq (tryV b), .eq (.bool y), ⟨fun v w => OwnC w B v (setlF cs b y), fun _ _ _ h k => h.keepAll k⟩, .eq (tryV a), .eq (.bool x), ⟨fun v w => OwnC w B v (setlF (setlF cs b y) a x), fun _ _ _ h k => h.keepAll k⟩, .eq (.bool true), .eq (.bool true), .eq (.slice Al nl cl), .eq (tryV a), .eq (.bool x), ⟨fun v w => OwnC w B v (setlF cs a x), fun _ _ _ h k => h.keepAll k⟩, .eq (tryV a), .eq (.bool x), .eq (.bool !x), ⟨fun v w => OwnC w B v (setlF (setlF cs a x) a (!x)), fun _ _ _ h k => h.keepAll k⟩, .eq (.slice Al nl cl), .eq (tryV a), .eq (.bool x), ⟨fun v w => OwnC w B v (setlF cs a x), fun _ _ _ h k => h.keepAll k⟩, .eq (.bool true), .eq (.bool true), .eq (.bool true)]) (by kernel_rfl) (by kernel_rfl) rfl rfl ?_ ?_
      · refine ⟨?_, ?_, ?_, ?_, ?_, ?_, ?_, ?_, ?_, ?_, ?_, ?_, ?_, ?_, ?_, ?_, ?_, ?_, ?_, ?_, ?_, ?_, ?_, ?_, ?_, ?_, ?_, ?_, ?_, ?_, ?_, trivial⟩
        · intro ac wc hs hd hz hf hw K hK
          have e0 : ac.eval (.tmp 11) = (.slice Al nl cl) := hf 11 rfl
          clear hd hz hf hw
          simp only [Region.wanted, if_true, Oper.wp, execOp, resolve, List.map_toArray, List.map_cons, List.map_nil, Option.map_some, Option.map_none, e0]
          go_simp
          exact hK _ _ rfl (Same.refl _ _)
        · intro ac wc hs hd hz hf hw K hK
          have e0 : ac.eval (.tmp 6) = (.pointer (some ⟨w.heap.size, 0, none⟩)) := hf 6 rfl
          have m0 : wc.cell? ⟨w.heap.size, 0, none⟩ = some (.int .i64 a.node) := hs.cell (p := ⟨w.heap.size, 0, none⟩) trivial s0
          have m1 : wc.cell? ⟨w.heap.size, 1, none⟩ = some (.int .i64 a.life) := hs.cell (p := ⟨w.heap.size, 1, none⟩) trivial s1
          have m2 : wc.cell? ⟨w.heap.size, 2, none⟩ = some (.int .i64 a.seq) := hs.cell (p := ⟨w.heap.size, 2, none⟩) trivial s2
          have m3 : wc.cell? ⟨w.heap.size, 3, none⟩ = some (.int .i64 a.attempt) := hs.cell (p := ⟨w.heap.size, 3, none⟩) trivial s3
          clear hd hz hf hw
          simp only [Region.wanted, if_true, Oper.wp, execOp, resolve, List.map_toArray, List.map_cons, List.map_nil, Option.map_some, Option.map_none, e0]
          go_simp
          exact hK _ _ rfl (Same.refl _ _)
        · intro ac wc hs hd hz hf hw K hK
          have e0 : ac.eval (.tmp 3) = (.bool x) := hf 3 rfl
          clear hd hz hf hw
          simp only [Region.wanted, if_true, Oper.wp, execOp, resolve, List.map_toArray, List.map_cons, List.map_nil, Option.map_some, Option.map_none, e0]
          go_simp
          exact hK _ _ rfl (Same.refl _ _)
        · intro ac wc hs hd hz hf hw K hK
          have e0 : ac.eval (.tmp 38) = (.slice Al nl cl) := hw 0 rfl
          have e1 : ac.eval (.tmp 39) = (tryV a) := hw 1 rfl
          have e2 : ac.eval (.tmp 40) = (.bool x) := hw 2 rfl
          clear hd hz hf hw
          simp only [Region.wanted, if_true, Oper.wp, execOp, resolve, List.map_toArray, List.map_cons, List.map_nil, Option.map_some, Option.map_none, e0, e1, e2]
          go_simp
          refine (mvsettle_any (.slice Al nl cl) (cs) a x _ wc (Hown.out.keepAll hs).reads Hf0.out.len Hf0.out.vers Hf0.out.sort).mono ?_
          rintro e wd ⟨u, rfl, hown, hS⟩
          exact hK _ _ (hown.lower (Nat.le_trans hB hs.size)) hS
        · intro ac wc hs hd hz hf hw K hK
          have e0 : ac.eval (.tmp 7) = (.pointer (some ⟨w.heap.size + 1, 0, none⟩)) := hf 7 rfl
          have m0 : wc.cell? ⟨w.heap.size + 1, 0, none⟩ = some (.int .i64 b.node) := hs.cell (p := ⟨w.heap.size + 1, 0, none⟩) trivial t0
          have m1 : wc.cell? ⟨w.heap.size + 1, 1, none⟩ = some (.int .i64 b.life) := hs.cell (p := ⟨w.heap.size + 1, 1, none⟩) trivial t1
          have m2 : wc.cell? ⟨w.heap.size + 1, 2, none⟩ = some (.int .i64 b.seq) := hs.cell (p := ⟨w.heap.size + 1, 2, none⟩) trivial t2
          have m3 : wc.cell? ⟨w.heap.size + 1, 3, none⟩ = some (.int .i64 b.attempt) := hs.cell (p := ⟨w.heap.size + 1, 3, none⟩) trivial t3
          clear hd hz hf hw
          simp only [Region.wanted, if_true, Oper.wp, execOp, resolve, List.map_toArray, List.map_cons, List.map_nil, Option.map_some, Option.map_none, e0]
          go_simp
          exact hK _ _ rfl (Same.refl _ _)
        · intro ac wc hs hd hz hf hw K hK
          have e0 : ac.eval (.tmp 4) = (.bool y) := hf 4 rfl
          clear hd hz hf hw
          simp only [Region.wanted, if_true, Oper.wp, execOp, resolve, List.map_toArray, List.map_cons, List.map_nil, Option.map_some, Option.map_none, e0]
          go_simp
          exact hK _ _ rfl (Same.refl _ _)
        · intro ac wc hs hd hz hf hw K hK
          have p0 : (⟨fun v w => OwnC w B v (setlF cs a x), fun _ _ _ h k => h.keepAll k⟩ : SP).p (ac.eval (.tmp 41)) wc := hw 3 rfl
          obtain ⟨u0, e0⟩ : ∃ u, ac.eval (.tmp 41) = u := ⟨_, rfl⟩
          rw [e0] at p0
          have e1 : ac.eval (.tmp 42) = (tryV b) := hw 4 rfl
          have e2 : ac.eval (.tmp 43) = (.bool y) := hw 5 rfl
          clear hd hz hf hw
          simp only [Region.wanted, if_true, Oper.wp, execOp, resolve, List.map_toArray, List.map_cons, List.map_nil, Option.map_some, Option.map_none, e0, e1, e2]
          go_simp
          refine (mvsettle_any u0 (setlF cs a x) b y _ wc (OwnC.reads p0) Hf1.out.len Hf1.out.vers Hf1.out.sort).mono ?_
          rintro e wd ⟨u, rfl, hown, hS⟩
          exact hK _ _ (hown.lower (Nat.le_trans hB hs.size)) hS
        · intro ac wc hs hd hz hf hw K hK
          have e0 : ac.eval (.tmp 11) = (.slice Al nl cl) := hf 11 rfl
          clear hd hz hf hw
          simp only [Region.wanted, if_true, Oper.wp, execOp, resolve, List.map_toArray, List.map_cons, List.map_nil, Option.map_some, Option.map_none, e0]
          go_simp
          exact hK _ _ rfl (Same.refl _ _)
        · intro ac wc hs hd hz hf hw K hK
          have e0 : ac.eval (.tmp 7) = (.pointer (some ⟨w.heap.size + 1, 0, none⟩)) := hf 7 rfl
          have m0 : wc.cell? ⟨w.heap.size + 1, 0, none⟩ = some (.int .i64 b.node) := hs.cell (p := ⟨w.heap.size + 1, 0, none⟩) trivial t0
          have m1 : wc.cell? ⟨w.heap.size + 1, 1, none⟩ = some (.int .i64 b.life) := hs.cell (p := ⟨w.heap.size + 1, 1, none⟩) trivial t1
          have m2 : wc.cell? ⟨w.heap.size + 1, 2, none⟩ = some (.int .i64 b.seq) := hs.cell (p := ⟨w.heap.size + 1, 2, none⟩) trivial t2
          have m3 : wc.cell? ⟨w.heap.size + 1, 3, none⟩ = some (.int .i64 b.attempt) := hs.cell (p := ⟨w.heap.size + 1, 3, none⟩) trivial t3
          clear hd hz hf hw
          simp only [Region.wanted, if_true, Oper.wp, execOp, resolve, List.map_toArray, List.map_cons, List.map_nil, Option.map_some, Option.map_none, e0]
          go_simp
          exact hK _ _ rfl (Same.refl _ _)
        · intro ac wc hs hd hz hf hw K hK
          have e0 : ac.eval (.tmp 4) = (.bool y) := hf 4 rfl
          clear hd hz hf hw
          simp only [Region.wanted, if_true, Oper.wp, execOp, resolve, List.map_toArray, List.map_cons, List.map_nil, Option.map_some, Option.map_none, e0]
          go_simp
          exact hK _ _ rfl (Same.refl _ _)
        · intro ac wc hs hd hz hf hw K hK
          have e0 : ac.eval (.tmp 45) = (.slice Al nl cl) := hw 7 rfl
          have e1 : ac.eval (.tmp 46) = (tryV b) := hw 8 rfl
          have e2 : ac.eval (.tmp 47) = (.bool y) := hw 9 rfl
          clear hd hz hf hw
          simp only [Region.wanted, if_true, Oper.wp, execOp, resolve, List.map_toArray, List.map_cons, List.map_nil, Option.map_some, Option.map_none, e0, e1, e2]
          go_simp
          refine (mvsettle_any (.slice Al nl cl) (cs) b y _ wc (Hown.out.keepAll hs).reads Hf0.out.len Hf0.out.vers Hf0.out.sort).mono ?_
          rintro e wd ⟨u, rfl, hown, hS⟩
          exact hK _ _ (hown.lower (Nat.le_trans hB hs.size)) hS
        · intro ac wc hs hd hz hf hw K hK
          have e0 : ac.eval (.tmp 6) = (.pointer (some ⟨w.heap.size, 0, none⟩)) := hf 6 rfl
          have m0 : wc.cell? ⟨w.heap.size, 0, none⟩ = some (.int .i64 a.node) := hs.cell (p := ⟨w.heap.size, 0, none⟩) trivial s0
          have m1 : wc.cell? ⟨w.heap.size, 1, none⟩ = some (.int .i64 a.life) := hs.cell (p := ⟨w.heap.size, 1, none⟩) trivial s1
          have m2 : wc.cell? ⟨w.heap.size, 2, none⟩ = some (.int .i64 a.seq) := hs.cell (p := ⟨w.heap.size, 2, none⟩) trivial s2
          have m3 : wc.cell? ⟨w.heap.size, 3, none⟩ = some (.int .i64 a.attempt) := hs.cell (p := ⟨w.heap.size, 3, none⟩) trivial s3
          clear hd hz hf hw
          simp only [Region.wanted, if_true, Oper.wp, execOp, resolve, List.map_toArray, List.map_cons, List.map_nil, Option.map_some, Option.map_none, e0]
          go_simp
          exact hK _ _ rfl (Same.refl _ _)
        · intro ac wc hs hd hz hf hw K hK
          have e0 : ac.eval (.tmp 3) = (.bool x) := hf 3 rfl
          clear hd hz hf hw
          simp only [Region.wanted, if_true, Oper.wp, execOp, resolve, List.map_toArray, List.map_cons, List.map_nil, Option.map_some, Option.map_none, e0]
          go_simp
          exact hK _ _ rfl (Same.refl _ _)
        · intro ac wc hs hd hz hf hw K hK
          have p0 : (⟨fun v w => OwnC w B v (setlF cs b y), fun _ _ _ h k => h.keepAll k⟩ : SP).p (ac.eval (.tmp 48)) wc := hw 10 rfl
          obtain ⟨u0, e0⟩ : ∃ u, ac.eval (.tmp 48) = u := ⟨_, rfl⟩
          rw [e0] at p0
          have e1 : ac.eval (.tmp 49) = (tryV a) := hw 11 rfl
          have e2 : ac.eval (.tmp 50) = (.bool x) := hw 12 rfl
          clear hd hz hf hw
          simp only [Region.wanted, if_true, Oper.wp, execOp, resolve, List.map_toArray, List.map_cons, List.map_nil, Option.map_some, Option.map_none, e0, e1, e2]
          go_simp
          refine (mvsettle_any u0 (setlF cs b y) a x _ wc (OwnC.reads p0) Hf3.out.len Hf3.out.vers Hf3.out.sort).mono ?_
          rintro e wd ⟨u, rfl, hown, hS⟩
          exact hK _ _ (hown.lower (Nat.le_trans hB hs.size)) hS
        · intro ac wc hs hd hz hf hw K hK
          have p0 : (⟨fun v w => OwnC w B v (setlF (setlF cs a x) b y), fun _ _ _ h k => h.keepAll k⟩ : SP).p (ac.eval (.tmp 44)) wc := hw 6 rfl
          obtain ⟨u0, e0⟩ : ∃ u, ac.eval (.tmp 44) = u := ⟨_, rfl⟩
          rw [e0] at p0
          have p1 : (⟨fun v w => OwnC w B v (setlF (setlF cs b y) a x), fun _ _ _ h k => h.keepAll k⟩ : SP).p (ac.eval (.tmp 51)) wc := hw 13 rfl
          obtain ⟨u1, e1⟩ : ∃ u, ac.eval (.tmp 51) = u := ⟨_, rfl⟩
          rw [e1] at p1
          clear hd hz hf hw
          simp only [Region.wanted, if_true, Oper.wp, execOp, resolve, List.map_toArray, List.map_cons, List.map_nil, Option.map_some, Option.map_none, e0, e1]
          go_simp
          refine (same_any u0 u1 (setlF (setlF cs a x) b y) _ _ wc (OwnC.reads p0) (Heq1.out ▸ (OwnC.reads p1)) Hf2.out.len Hf2.out.vers).mono ?_
          rintro e wd ⟨rfl, hS⟩
          exact hK _ _ rfl hS
        · intro ac wc hs hd hz hf hw K hK
          have e0 : ac.eval (.tmp 52) = (.bool true) := hw 14 rfl
          clear hd hz hf hw
          simp only [Region.wanted, if_true, Oper.wp, execOp, resolve, List.map_toArray, List.map_cons, List.map_nil, Option.map_some, Option.map_none, e0]
          go_simp
          exact hK _ _ rfl (Same.refl _ _)
        · intro ac wc hs hd hz hf hw K hK
          have eg : ac.eval (.tmp 53) = .bool true := hw 15 rfl
          refine run_wanted (j := 15) (d := 53) (b := true) rfl rfl hz (of_decide_eq_true rfl) eg ?_
          clear eg
          have e0 : ac.eval (.tmp 11) = (.slice Al nl cl) := hf 11 rfl
          clear hd hz hf hw
          simp only [Oper.wp, execOp, resolve, List.map_toArray, List.map_cons, List.map_nil, Option.map_some, Option.map_none, e0]
          go_simp
          exact hK _ _ rfl (Same.refl _ _)
        · intro ac wc hs hd hz hf hw K hK
          have eg : ac.eval (.tmp 53) = .bool true := hw 15 rfl
          refine run_wanted (j := 15) (d := 53) (b := true) rfl rfl hz (of_decide_eq_true rfl) eg ?_
          clear eg
          have e0 : ac.eval (.tmp 6) = (.pointer (some ⟨w.heap.size, 0, none⟩)) := hf 6 rfl
          have m0 : wc.cell? ⟨w.heap.size, 0, none⟩ = some (.int .i64 a.node) := hs.cell (p := ⟨w.heap.size, 0, none⟩) trivial s0
          have m1 : wc.cell? ⟨w.heap.size, 1, none⟩ = some (.int .i64 a.life) := hs.cell (p := ⟨w.heap.size, 1, none⟩) trivial s1
          have m2 : wc.cell? ⟨w.heap.size, 2, none⟩ = some (.int .i64 a.seq) := hs.cell (p := ⟨w.heap.size, 2, none⟩) trivial s2
          have m3 : wc.cell? ⟨w.heap.size, 3, none⟩ = some (.int .i64 a.attempt) := hs.cell (p := ⟨w.heap.size, 3, none⟩) trivial s3
          clear hd hz hf hw
          simp only [Oper.wp, execOp, resolve, List.map_toArray, List.map_cons, List.map_nil, Option.map_some, Option.map_none, e0]
          go_simp
          exact hK _ _ rfl (Same.refl _ _)
        · intro ac wc hs hd hz hf hw K hK
          have eg : ac.eval (.tmp 53) = .bool true := hw 15 rfl
          refine run_wanted (j := 15) (d := 53) (b := true) rfl rfl hz (of_decide_eq_true rfl) eg ?_
          clear eg
          have e0 : ac.eval (.tmp 3) = (.bool x) := hf 3 rfl
          clear hd hz hf hw
          simp only [Oper.wp, execOp, resolve, List.map_toArray, List.map_cons, List.map_nil, Option.map_some, Option.map_none, e0]
          go_simp
          exact hK _ _ rfl (Same.refl _ _)
        · intro ac wc hs hd hz hf hw K hK
          have eg : ac.eval (.tmp 53) = .bool true := hw 15 rfl
          refine run_wanted (j := 15) (d := 53) (b := true) rfl rfl hz (of_decide_eq_true rfl) eg ?_
          clear eg
          have e0 : ac.eval (.tmp 54) = (.slice Al nl cl) := hw 16 rfl
          have e1 : ac.eval (.tmp 55) = (tryV a) := hw 17 rfl
          have e2 : ac.eval (.tmp 56) = (.bool x) := hw 18 rfl
          clear hd hz hf hw
          simp only [Oper.wp, execOp, resolve, List.map_toArray, List.map_cons, List.map_nil, Option.map_some, Option.map_none, e0, e1, e2]
          go_simp
          refine (mvsettle_any (.slice Al nl cl) (cs) a x _ wc (Hown.out.keepAll hs).reads Hf0.out.len Hf0.out.vers Hf0.out.sort).mono ?_
          rintro e wd ⟨u, rfl, hown, hS⟩
          exact hK _ _ (hown.lower (Nat.le_trans hB hs.size)) hS
        · intro ac wc hs hd hz hf hw K hK
          have eg : ac.eval (.tmp 53) = .bool true := hw 15 rfl
          refine run_wanted (j := 15) (d := 53) (b := true) rfl rfl hz (of_decide_eq_true rfl) eg ?_
          clear eg
          have e0 : ac.eval (.tmp 6) = (.pointer (some ⟨w.heap.size, 0, none⟩)) := hf 6 rfl
          have m0 : wc.cell? ⟨w.heap.size, 0, none⟩ = some (.int .i64 a.node) := hs.cell (p := ⟨w.heap.size, 0, none⟩) trivial s0
          have m1 : wc.cell? ⟨w.heap.size, 1, none⟩ = some (.int .i64 a.life) := hs.cell (p := ⟨w.heap.size, 1, none⟩) trivial s1
          have m2 : wc.cell? ⟨w.heap.size, 2, none⟩ = some (.int .i64 a.seq) := hs.cell (p := ⟨w.heap.size, 2, none⟩) trivial s2
          have m3 : wc.cell? ⟨w.heap.size, 3, none⟩ = some (.int .i64 a.attempt) := hs.cell (p := ⟨w.heap.size, 3, none⟩) trivial s3
          clear hd hz hf hw
          simp only [Oper.wp, execOp, resolve, List.map_toArray, List.map_cons, List.map_nil, Option.map_some, Option.map_none, e0]
          go_simp
          exact hK _ _ rfl (Same.refl _ _)
        · intro ac wc hs hd hz hf hw K hK
          have eg : ac.eval (.tmp 53) = .bool true := hw 15 rfl
          refine run_wanted (j := 15) (d := 53) (b := true) rfl rfl hz (of_decide_eq_true rfl) eg ?_
          clear eg
          have e0 : ac.eval (.tmp 3) = (.bool x) := hf 3 rfl
          clear hd hz hf hw
          simp only [Oper.wp, execOp, resolve, List.map_toArray, List.map_cons, List.map_nil, Option.map_some, Option.map_none, e0]
          go_simp
          exact hK _ _ rfl (Same.refl _ _)
        · intro ac wc hs hd hz hf hw K hK
          have eg : ac.eval (.tmp 53) = .bool true := hw 15 rfl
          refine run_wanted (j := 15) (d := 53) (b := true) rfl rfl hz (of_decide_eq_true rfl) eg ?_
          clear eg
          have e0 : ac.eval (.tmp 59) = (.bool x) := hw 21 rfl
          clear hd hz hf hw
          simp only [Oper.wp, execOp, resolve, List.map_toArray, List.map_cons, List.map_nil, Option.map_some, Option.map_none, e0]
          go_simp
          exact hK _ _ rfl (Same.refl _ _)
        · intro ac wc hs hd hz hf hw K hK
          have eg : ac.eval (.tmp 53) = .bool true := hw 15 rfl
          refine run_wanted (j := 15) (d := 53) (b := true) rfl rfl hz (of_decide_eq_true rfl) eg ?_
          clear eg
          have p0 : (⟨fun v w => OwnC w B v (setlF cs a x), fun _ _ _ h k => h.keepAll k⟩ : SP).p (ac.eval (.tmp 57)) wc := hw 19 rfl
          obtain ⟨u0, e0⟩ : ∃ u, ac.eval (.tmp 57) = u := ⟨_, rfl⟩
          rw [e0] at p0
          have e1 : ac.eval (.tmp 58) = (tryV a) := hw 20 rfl
          have e2 : ac.eval (.tmp 60) = (.bool !x) := hw 22 rfl
          clear hd hz hf hw
          simp only [Oper.wp, execOp, resolve, List.map_toArray, List.map_cons, List.map_nil, Option.map_some, Option.map_none, e0, e1, e2]
          go_simp
          refine (mvsettle_any u0 (setlF cs a x) a (!x) _ wc (OwnC.reads p0) Hf1.out.len Hf1.out.vers Hf1.out.sort).mono ?_
          rintro e wd ⟨u, rfl, hown, hS⟩
          exact hK _ _ (hown.lower (Nat.le_trans hB hs.size)) hS
        · intro ac wc hs hd hz hf hw K hK
          have eg : ac.eval (.tmp 53) = .bool true := hw 15 rfl
          refine run_wanted (j := 15) (d := 53) (b := true) rfl rfl hz (of_decide_eq_true rfl) eg ?_
          clear eg
          have e0 : ac.eval (.tmp 11) = (.slice Al nl cl) := hf 11 rfl
          clear hd hz hf hw
          simp only [Oper.wp, execOp, resolve, List.map_toArray, List.map_cons, List.map_nil, Option.map_some, Option.map_none, e0]
          go_simp
          exact hK _ _ rfl (Same.refl _ _)
        · intro ac wc hs hd hz hf hw K hK
          have eg : ac.eval (.tmp 53) = .bool true := hw 15 rfl
          refine run_wanted (j := 15) (d := 53) (b := true) rfl rfl hz (of_decide_eq_true rfl) eg ?_
          clear eg
          have e0 : ac.eval (.tmp 6) = (.pointer (some ⟨w.heap.size, 0, none⟩)) := hf 6 rfl
          have m0 : wc.cell? ⟨w.heap.size, 0, none⟩ = some (.int .i64 a.node) := hs.cell (p := ⟨w.heap.size, 0, none⟩) trivial s0
          have m1 : wc.cell? ⟨w.heap.size, 1, none⟩ = some (.int .i64 a.life) := hs.cell (p := ⟨w.heap.size, 1, none⟩) trivial s1
          have m2 : wc.cell? ⟨w.heap.size, 2, none⟩ = some (.int .i64 a.seq) := hs.cell (p := ⟨w.heap.size, 2, none⟩) trivial s2
          have m3 : wc.cell? ⟨w.heap.size, 3, none⟩ = some (.int .i64 a.attempt) := hs.cell (p := ⟨w.heap.size, 3, none⟩) trivial s3
          clear hd hz hf hw
          simp only [Oper.wp, execOp, resolve, List.map_toArray, List.map_cons, List.map_nil, Option.map_some, Option.map_none, e0]
          go_simp
          exact hK _ _ rfl (Same.refl _ _)
        · intro ac wc hs hd hz hf hw K hK
          have eg : ac.eval (.tmp 53) = .bool true := hw 15 rfl
          refine run_wanted (j := 15) (d := 53) (b := true) rfl rfl hz (of_decide_eq_true rfl) eg ?_
          clear eg
          have e0 : ac.eval (.tmp 3) = (.bool x) := hf 3 rfl
          clear hd hz hf hw
          simp only [Oper.wp, execOp, resolve, List.map_toArray, List.map_cons, List.map_nil, Option.map_some, Option.map_none, e0]
          go_simp
          exact hK _ _ rfl (Same.refl _ _)
        · intro ac wc hs hd hz hf hw K hK
          have eg : ac.eval (.tmp 53) = .bool true := hw 15 rfl
          refine run_wanted (j := 15) (d := 53) (b := true) rfl rfl hz (of_decide_eq_true rfl) eg ?_
          clear eg
          have e0 : ac.eval (.tmp 62) = (.slice Al nl cl) := hw 24 rfl
          have e1 : ac.eval (.tmp 63) = (tryV a) := hw 25 rfl
          have e2 : ac.eval (.tmp 64) = (.bool x) := hw 26 rfl
          clear hd hz hf hw
          simp only [Oper.wp, execOp, resolve, List.map_toArray, List.map_cons, List.map_nil, Option.map_some, Option.map_none, e0, e1, e2]
          go_simp
          refine (mvsettle_any (.slice Al nl cl) (cs) a x _ wc (Hown.out.keepAll hs).reads Hf0.out.len Hf0.out.vers Hf0.out.sort).mono ?_
          rintro e wd ⟨u, rfl, hown, hS⟩
          exact hK _ _ (hown.lower (Nat.le_trans hB hs.size)) hS
        · intro ac wc hs hd hz hf hw K hK
          have eg : ac.eval (.tmp 53) = .bool true := hw 15 rfl
          refine run_wanted (j := 15) (d := 53) (b := true) rfl rfl hz (of_decide_eq_true rfl) eg ?_
          clear eg
          have p0 : (⟨fun v w => OwnC w B v (setlF (setlF cs a x) a (!x)), fun _ _ _ h k => h.keepAll k⟩ : SP).p (ac.eval (.tmp 61)) wc := hw 23 rfl
          obtain ⟨u0, e0⟩ : ∃ u, ac.eval (.tmp 61) = u := ⟨_, rfl⟩
          rw [e0] at p0
          have p1 : (⟨fun v w => OwnC w B v (setlF cs a x), fun _ _ _ h k => h.keepAll k⟩ : SP).p (ac.eval (.tmp 65)) wc := hw 27 rfl
          obtain ⟨u1, e1⟩ : ∃ u, ac.eval (.tmp 65) = u := ⟨_, rfl⟩
          rw [e1] at p1
          clear hd hz hf hw
          simp only [Oper.wp, execOp, resolve, List.map_toArray, List.map_cons, List.map_nil, Option.map_some, Option.map_none, e0, e1]
          go_simp
          refine (same_any u0 u1 (setlF cs a x) _ _ wc (Heq2.out ▸ (OwnC.reads p0)) (OwnC.reads p1) Hf1.out.len Hf1.out.vers).mono ?_
          rintro e wd ⟨rfl, hS⟩
          exact hK _ _ rfl hS
        · intro ac wc hs hd hz hf hw K hK
          have e0 : ac.eval (.tmp 53) = (.bool true) := hw 15 rfl
          have e1 : ac.eval (.tmp 66) = (.bool true) := hw 28 rfl
          clear hd hz hf hw
          simp only [Region.wanted, if_true, Oper.wp, execOp, resolve, List.map_toArray, List.map_cons, List.map_nil, Option.map_some, Option.map_none, e0, e1]
          go_simp
          exact hK _ _ rfl (Same.refl _ _)
        · intro ac wc hs hd hz hf hw K hK
          have e0 : ac.eval (.tmp 67) = (.bool true) := hw 29 rfl
          clear hd hz hf hw
          simp only [Region.wanted, if_true, Oper.wp, execOp, resolve, List.map_toArray, List.map_cons, List.map_nil, Option.map_some, Option.map_none, e0]
          go_simp
          exact hK _ _ rfl (Same.refl _ _)
      · intro vs wR hvl hvp hsR
        rcases vs with _ | ⟨z0, _ | ⟨z1, _ | ⟨z2, _ | ⟨z3, _ | ⟨z4, _ | ⟨z5, _ | ⟨z6, _ | ⟨z7, _ | ⟨z8, _ | ⟨z9, _ | ⟨z10, _ | ⟨z11, _ | ⟨z12, _ | ⟨z13, _ | ⟨z14, _ | ⟨z15, _ | ⟨z16, _ | ⟨z17, _ | ⟨z18, _ | ⟨z19, _ | ⟨z20, _ | ⟨z21, _ | ⟨z22, _ | ⟨z23, _ | ⟨z24, _ | ⟨z25, _ | ⟨z26, _ | ⟨z27, _ | ⟨z28, _ | ⟨z29, _ | ⟨z30, _ | ⟨zz, zr⟩⟩⟩⟩⟩⟩⟩⟩⟩⟩⟩⟩⟩⟩⟩⟩⟩⟩⟩⟩⟩⟩⟩⟩⟩⟩⟩⟩⟩⟩⟩⟩
        rotate_right 1
        · simp at hvl
        · simp at hvl
        · simp at hvl
        · simp at hvl
        · simp at hvl
        · simp at hvl
        · simp at hvl
        · simp at hvl
        · simp at hvl
        · simp at hvl
        · simp at hvl
        · simp at hvl
        · simp at hvl
        · simp at hvl
        · simp at hvl
        · simp at hvl
        · simp at hvl
        · simp at hvl
        · simp at hvl
        · simp at hvl
        · simp at hvl
        · simp at hvl
        · simp at hvl
        · simp at hvl
        · simp at hvl
        · simp at hvl
        · simp at hvl
        · simp at hvl
        · simp at hvl
        · simp at hvl
        · simp at hvl
        · simp at hvl
        · obtain rfl : z0 = (.slice Al nl cl) := hvp 0 (by simp) (by simp)
          obtain rfl : z1 = (tryV a) := hvp 1 (by simp) (by simp)
          obtain rfl : z2 = (.bool x) := hvp 2 (by simp) (by simp)
          have hx1 : (⟨fun v w => OwnC w B v (setlF cs a x), fun _ _ _ h k => h.keepAll k⟩ : SP).p z3 wR := hvp 3 (by simp) (by simp)
          obtain rfl : z4 = (tryV b) := hvp 4 (by simp) (by simp)
          obtain rfl : z5 = (.bool y) := hvp 5 (by simp) (by simp)
          have hx2 : (⟨fun v w => OwnC w B v (setlF (setlF cs a x) b y), fun _ _ _ h k => h.keepAll k⟩ : SP).p z6 wR := hvp 6 (by simp) (by simp)
          obtain rfl : z7 = (.slice Al nl cl) := hvp 7 (by simp) (by simp)
          obtain rfl : z8 = (tryV b) := hvp 8 (by simp) (by simp)
          obtain rfl : z9 = (.bool y) := hvp 9 (by simp) (by simp)
          have hx3 : (⟨fun v w => OwnC w B v (setlF cs b y), fun _ _ _ h k => h.keepAll k⟩ : SP).p z10 wR := hvp 10 (by simp) (by simp)
          obtain rfl : z11 = (tryV a) := hvp 11 (by simp) (by simp)
          obtain rfl : z12 = (.bool x) := hvp 12 (by simp) (by simp)
          have hx4 : (⟨fun v w => OwnC w B v (setlF (setlF cs b y) a x), fun _ _ _ h k => h.keepAll k⟩ : SP).p z13 wR := hvp 13 (by simp) (by simp)
          obtain rfl : z14 = (.bool true) := hvp 14 (by simp) (by simp)
          obtain rfl : z15 = (.bool true) := hvp 15 (by simp) (by simp)
          obtain rfl : z16 = (.slice Al nl cl) := hvp 16 (by simp) (by simp)
          obtain rfl : z17 = (tryV a) := hvp 17 (by simp) (by simp)
          obtain rfl : z18 = (.bool x) := hvp 18 (by simp) (by simp)
          have hx5 : (⟨fun v w => OwnC w B v (setlF cs a x), fun _ _ _ h k => h.keepAll k⟩ : SP).p z19 wR := hvp 19 (by simp) (by simp)
          obtain rfl : z20 = (tryV a) := hvp 20 (by simp) (by simp)
          obtain rfl : z21 = (.bool x) := hvp 21 (by simp) (by simp)
          obtain rfl : z22 = (.bool !x) := hvp 22 (by simp) (by simp)
          have hx6 : (⟨fun v w => OwnC w B v (setlF (setlF cs a x) a (!x)), fun _ _ _ h k => h.keepAll k⟩ : SP).p z23 wR := hvp 23 (by simp) (by simp)
          obtain rfl : z24 = (.slice Al nl cl) := hvp 24 (by simp) (by simp)
          obtain rfl : z25 = (tryV a) := hvp 25 (by simp) (by simp)
          obtain rfl : z26 = (.bool x) := hvp 26 (by simp) (by simp)
          have hx7 : (⟨fun v w => OwnC w B v (setlF cs a x), fun _ _ _ h k => h.keepAll k⟩ : SP).p z27 wR := hvp 27 (by simp) (by simp)
          obtain rfl : z28 = (.bool true) := hvp 28 (by simp) (by simp)
          obtain rfl : z29 = (.bool true) := hvp 29 (by simp) (by simp)
          obtain rfl : z30 = (.bool true) := hvp 30 (by simp) (by simp)
          clear hvl hvp
          simp only [putAll, Act.put, List.setIfInBounds_toArray, List.set_cons_succ, List.set_cons_zero]
          go_wp2
          go_ret
          exact ⟨rfl, (HS1.out.trans HS.out).trans hsR⟩
end Go.Proofs.Ytoldelocfmpccaa
