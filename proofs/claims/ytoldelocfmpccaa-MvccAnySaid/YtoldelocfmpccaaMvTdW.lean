/-
  The walk of told: what is told of cells that may be is the document's.
-/
import Derived.Test.YtoldelocfmpccaaMvPRW
import Derived.Test.YtoldelocfmpccaaMvA5H
import Derived.Test.YtoldelocfmpccaaMvA6W
set_option linter.unusedSimpArgs false
set_option linter.unusedVariables false
namespace Go.Proofs.Ytoldelocfmpccaa
open Go.RowKit

theorem refmay_good {v : Value} {cs : List Cel} {S : Nat → Prop} {w : World} (hv : CelR w S v cs) (hg : Good cs) (hn : cs.length ≤ 100000) (hn2 : ∀ c ∈ cs, c.vers.length ≤ 1000000) :
    Calls Try.prog 37 #[v] w fun e w' => e = .returned (.bool true) ∧ Same (fun _ => True) w w' := by
  refine (refmay_all v cs S w hv hn hn2).mono ?_
  rintro e w' ⟨b, rfl, hb, hs⟩
  exact ⟨by rw [hb.2 hg], hs⟩
theorem mvmay_good {v : Value} {cs : List Cel} {S : Nat → Prop} {w : World} (hv : CelR w S v cs) (hg : Good cs) (hn : cs.length ≤ 100000) (hn2 : ∀ c ∈ cs, c.vers.length ≤ 1000000) :
    Calls Try.prog 31 #[v] w fun e w' => e = .returned (.bool true) ∧ Same (fun _ => True) w w' := by
  refine (mvmay_all v cs S w hv hn hn2).mono ?_
  rintro e w' ⟨b, rfl, hb, hs⟩
  exact ⟨by rw [hb.2 hg], hs⟩
/-- What told's loop holds of the pairs that it wipes. -/
def WipeX (L : List (List UInt8 × List UInt8)) (Ax : Option Addr) (g k : Nat) (w : World) : Prop :=
  0 < L.length → ∃ cur : List Value, Ax = some ⟨g, 0, none⟩ ∧ Row w g 60 cur ∧ ∀ i (h : i < L.length), k ≤ i → cur[i * 2]? = some (.string (str L[i].1)) ∧ cur[i * 2 + 1]? = some (.string (str L[i].2))
theorem WipeX.start {w : World} {B c : Nat} {Ax : Option Addr} {L : List (List UInt8 × List UInt8)} (h : OwnP w B (.slice Ax L.length c) L) : ∃ g, (B ≤ g ∧ g < w.heap.size ∨ L.length = 0) ∧ WipeX L Ax g 0 w := by
  rcases ownsRow_row h with ⟨_, h2, _⟩ | ⟨g, cap, cur, h1, h2, h3, h4, h5, h6, h7⟩
  · exact ⟨0, .inr h2, fun h => by omega⟩
  · injection h1 with h1 _ _
    refine ⟨g, .inl ⟨h2, h3.lt⟩, fun _ => ⟨cur, h1, h3, fun i hi _ => ?_⟩⟩
    have key : ∀ j, j < 2 → cur[i * 2 + j]? = (pairCs L[i])[j]? := fun j hj => by
      have e := flat_at pairCs 2 (fun _ => rfl) L i j hi hj
      rw [← h7, List.getElem?_take, if_pos (by omega)] at e
      exact e
    exact ⟨by have := key 0 (by omega); rwa [Nat.add_zero] at this, key 1 (by omega)⟩
theorem WipeX.keep {w w' : World} {L : List (List UInt8 × List UInt8)} {Ax : Option Addr} {g k : Nat} {S : Nat → Prop} (h : WipeX L Ax g k w) (hs : Same S w w') (hS : S g) : WipeX L Ax g k w' := fun h0 => by
  obtain ⟨cur, h1, h2, h3⟩ := h h0
  exact ⟨cur, h1, h2.keep hs hS, h3⟩
theorem WipeX.next {w : World} {L : List (List UInt8 × List UInt8)} {Ax : Option Addr} {g k : Nat} {u v : Value} (h : WipeX L Ax g k w) : WipeX L Ax g (k + 1) ((w.setCell ⟨g, k * 2, none⟩ u).setCell ⟨g, k * 2 + 1, none⟩ v) := fun h0 => by
  obtain ⟨cur, h1, h2, h3⟩ := h h0
  refine ⟨(cur.set (k * 2) u).set (k * 2 + 1) v, h1, (h2.set_ _ _).set_ _ _, fun i hi hk => ?_⟩
  obtain ⟨e1, e2⟩ := h3 i hi (by omega)
  rw [List.getElem?_set_ne (by omega), List.getElem?_set_ne (by omega), List.getElem?_set_ne (by omega), List.getElem?_set_ne (by omega)]
  exact ⟨e1, e2⟩
theorem WipeX.cells {w : World} {L : List (List UInt8 × List UInt8)} {Ax : Option Addr} {g k : Nat} (h : WipeX L Ax g k w) (hk : k < L.length) : Ax = some ⟨g, 0, none⟩ ∧ w.cell? ⟨g, k * 2, none⟩ = some (.string (str L[k].1)) ∧ w.cell? ⟨g, k * 2 + 1, none⟩ = some (.string (str L[k].2)) ∧ w.frozen? ⟨g, k * 2, none⟩ = false ∧ w.frozen? ⟨g, k * 2 + 1, none⟩ = false ∧ g < w.heap.size := by
  obtain ⟨cur, h1, h2, h3⟩ := h (by omega)
  obtain ⟨e1, e2⟩ := h3 k hk (Nat.le_refl _)
  exact ⟨h1, by rw [h2.cell]; exact e1, by rw [h2.cell]; exact e2, h2.frozen _, h2.frozen _, h2.lt⟩
set_option maxRecDepth 100000 in
set_option maxHeartbeats 4000000 in
theorem told_any (v : Value) (cs : List Cel) (key : List UInt8) (a : St) (lo hi : List UInt8) (by_ : TryT) (most : Int) (S : Nat → Prop) (w : World) (hv : CelR w S v cs) (hS0 : ∀ k, S k → k < w.heap.size) (hg : Good cs) (hn : cs.length ≤ 100000) (hn2 : ∀ c ∈ cs, c.vers.length ≤ 1000000) :
    Calls Try.prog 35 #[v, .string (str key), stV a, .agg #[.string (str lo), .string (str hi)], tryV by_, .int .i64 most] w fun e w' => e = .returned (.bool true) ∧ Same (fun _ => True) w w' := by
  obtain ⟨A, cp, rfl, hc, hm⟩ := hv.form
  unfold maxLen at hm
  have r0 := ((Row.new w 28 (stCs a)).keep ((Same.refl (fun _ => True) _).alloc (.cells ([.string (str lo), .string (str hi)]).toArray 53)) trivial).keep ((Same.refl (fun _ => True) _).alloc (.cells (tryCs by_).toArray 26)) trivial
  have r1 := (Row.new (w.alloc (.cells (stCs a).toArray 28)) 53 [.string (str lo), .string (str hi)]).keep ((Same.refl (fun _ => True) _).alloc (.cells (tryCs by_).toArray 26)) trivial
  have r2 := Row.new ((w.alloc (.cells (stCs a).toArray 28)).alloc (.cells ([.string (str lo), .string (str hi)]).toArray 53)) 26 (tryCs by_)
  have hS1 := (((Same.refl (fun _ => True) w).alloc (.cells (stCs a).toArray 28)).alloc (.cells ([.string (str lo), .string (str hi)]).toArray 53)).alloc (.cells (tryCs by_).toArray 26)
  rw [World.size_alloc] at r1
  rw [World.size_alloc, World.size_alloc] at r2
  have Hg := Lib.hid hg
  have Hn2 := Lib.hid hn2
  have Hso := Lib.hid hg.sorted
  clear hg hn2
  go_enter Try.func35, Try.ntmps35
  go_wp2_with (go_at_call 27; refine stopAt ?_)
  unfold Hid
  simp only [stCs, tryCs] at r0 r1 r2 hS1
  revert r0 r1 r2 hS1
  generalize ((w.alloc _).alloc _).alloc _ = w1
  intro r0 r1 r2 hS1
  have HS1 := Lib.hid hS1
  have Hv1 := Lib.hid (hv.keepAll hS1)
  have RA := Lib.hid r0
  have RS := Lib.hid r1
  have RT := Lib.hid r2
  have z1 := r2.lt
  have HS0 := Lib.hid hS0
  clear hv hS1 r0 r1 r2 hS0
  obtain ⟨⟨g1, g2⟩, hg⟩ : ∃ r, r = getF cs key a := ⟨_, rfl⟩
  have cg1 := mvget_any (.slice A cs.length cp) cs key a S w1 Hv1.out Hso.out (by omega)
  have cg2 := fun W h => refget_any (.slice A cs.length cp) cs key a S W h Hso.out
  rw [← hg] at cg1 cg2
  obtain ⟨⟨l, lb⟩, hl⟩ : ∃ r, r = blocksF cs lo hi a := ⟨_, rfl⟩
  have cl1 := fun W h => mvblocks_any (.slice A cs.length cp) cs lo hi a S W h Hso.out (by omega)
  have cl2 := fun W h => refblocks_any (.slice A cs.length cp) cs lo hi a S W h
  rw [← hl] at cl1 cl2
  obtain ⟨⟨L, E⟩, hLE⟩ : ∃ r, r = scanF cs lo hi a most := ⟨_, rfl⟩
  have hLn : L.length ≤ cs.length := by
    have e := hLE
    unfold scanF at e
    split at e
    · injection e with e _; rw [e]; simp
    · injection e with e _; rw [e]; exact Nat.le_trans (pairs_len a _) (List.length_filter_le _ _)
  have cx1 := fun W h k => mvscan_any (.slice A cs.length cp) cs lo hi a most S W h k Hso.out (by omega)
  have cx2 := fun W h => refscan_any (.slice A cs.length cp) cs lo hi a most S W h (by omega)
  rw [← hLE] at cx1 cx2
  obtain ⟨⟨h, hb⟩, hh⟩ : ∃ r, r = heldF cs key := ⟨_, rfl⟩
  have ch1 := fun W x => mvheld_any (.slice A cs.length cp) cs key S W x Hso.out (by omega)
  have ch2 := fun W x => refheld_any (.slice A cs.length cp) cs key S W x Hso.out (by omega)
  rw [← hh] at ch1 ch2
  obtain ⟨mi, hmi⟩ : ∃ r, r = mineF cs by_ := ⟨_, rfl⟩
  have cm1 := fun W x => mvmine_any (.slice A cs.length cp) cs by_ S W x (by omega)
  have cm2 := fun W x => refmine_any (.slice A cs.length cp) cs by_ S W x
  rw [← hmi] at cm1 cm2
  clear hg hl hLE hh hmi
  refine (cg1).mono ?_
  rintro e w2 ⟨rfl, hS⟩
  have HS2 := Lib.hid ((Same.refl (fun _ => True) w1).trans hS)
  have Hv2 := Lib.hid (Hv1.out.keepAll hS)
  clear hS
  have ra_ := RA.out.keep HS2.out trivial
  have rs_ := RS.out.keep HS2.out trivial
  have a0 : w2.cell? ⟨w.heap.size, 0, none⟩ = some (.int .i64 a.wall) := ra_.cell 0
  have a1 : w2.cell? ⟨w.heap.size, 1, none⟩ = some (.int .i64 a.tie) := ra_.cell 1
  have s0 : w2.cell? ⟨w.heap.size + 1, 0, none⟩ = some (.string (str lo)) := rs_.cell 0
  have s1 : w2.cell? ⟨w.heap.size + 1, 1, none⟩ = some (.string (str hi)) := rs_.cell 1
  have zs := rs_.lt
  clear ra_ rs_
  go_wp2_with (go_at_call 58; refine stopAt ?_)
  unfold Hid
  refine (cg2 _ Hv2.out).mono ?_
  rintro e w3 ⟨rfl, hS⟩
  have HS3 := Lib.hid (HS2.out.trans hS)
  have Hv3 := Lib.hid (Hv2.out.keepAll hS)
  clear hS
  clear a0 a1 s0 s1 zs
  have ra_ := RA.out.keep HS3.out trivial
  have rs_ := RS.out.keep HS3.out trivial
  have a0 : w3.cell? ⟨w.heap.size, 0, none⟩ = some (.int .i64 a.wall) := ra_.cell 0
  have a1 : w3.cell? ⟨w.heap.size, 1, none⟩ = some (.int .i64 a.tie) := ra_.cell 1
  have s0 : w3.cell? ⟨w.heap.size + 1, 0, none⟩ = some (.string (str lo)) := rs_.cell 0
  have s1 : w3.cell? ⟨w.heap.size + 1, 1, none⟩ = some (.string (str hi)) := rs_.cell 1
  have zs := rs_.lt
  clear ra_ rs_
  go_wp2_with (go_at_call 74; refine stopAt ?_)
  unfold Hid
  refine (cl1 _ Hv3.out).mono ?_
  rintro e w4 ⟨rfl, hS⟩
  have HS4 := Lib.hid (HS3.out.trans hS)
  have Hv4 := Lib.hid (Hv3.out.keepAll hS)
  clear hS
  clear a0 a1 s0 s1 zs
  go_wp2_with (with_reducible refine stopDst 53 rfl ?_)
  unfold Hid
  generalize hW : World.alloc w4 _ = w5
  have hSw : Same (fun _ => True) w4 w5 := by rw [← hW]; exact (Same.refl _ _).alloc _
  have RL1 := Lib.hid (show Row w5 w4.heap.size 30 (lckCs l) by rw [← hW]; exact Row.new w4 30 (lckCs l))
  have HS5 := Lib.hid (HS4.out.trans hSw)
  have Hv5 := Lib.hid (Hv4.out.keepAll hSw)
  have zL1 := RL1.out.lt
  clear hW hSw
  have ra_ := RA.out.keep HS5.out trivial
  have rs_ := RS.out.keep HS5.out trivial
  have a0 : w5.cell? ⟨w.heap.size, 0, none⟩ = some (.int .i64 a.wall) := ra_.cell 0
  have a1 : w5.cell? ⟨w.heap.size, 1, none⟩ = some (.int .i64 a.tie) := ra_.cell 1
  have s0 : w5.cell? ⟨w.heap.size + 1, 0, none⟩ = some (.string (str lo)) := rs_.cell 0
  have s1 : w5.cell? ⟨w.heap.size + 1, 1, none⟩ = some (.string (str hi)) := rs_.cell 1
  have zs := rs_.lt
  clear ra_ rs_
  go_wp2_with (go_at_call 53; refine stopAt ?_)
  unfold Hid
  refine (cl2 _ Hv5.out).mono ?_
  rintro e w6 ⟨rfl, hS⟩
  have HS6 := Lib.hid (HS5.out.trans hS)
  have Hv6 := Lib.hid (Hv5.out.keepAll hS)
  have RL1 := Lib.hid (RL1.out.keep hS trivial)
  clear hS
  clear a0 a1 s0 s1 zs
  go_wp2_with (with_reducible refine stopDst 60 rfl ?_)
  unfold Hid
  generalize hW : World.alloc w6 _ = w7
  have hSw : Same (fun _ => True) w6 w7 := by rw [← hW]; exact (Same.refl _ _).alloc _
  have RL2 := Lib.hid (show Row w7 w6.heap.size 30 (lckCs l) by rw [← hW]; exact Row.new w6 30 (lckCs l))
  have HS7 := Lib.hid (HS6.out.trans hSw)
  have Hv7 := Lib.hid (Hv6.out.keepAll hSw)
  have zL2 := RL2.out.lt
  have RL1 := Lib.hid (RL1.out.keep hSw trivial)
  clear hW hSw
  have ra_ := RA.out.keep HS7.out trivial
  have rs_ := RS.out.keep HS7.out trivial
  have a0 : w7.cell? ⟨w.heap.size, 0, none⟩ = some (.int .i64 a.wall) := ra_.cell 0
  have a1 : w7.cell? ⟨w.heap.size, 1, none⟩ = some (.int .i64 a.tie) := ra_.cell 1
  have s0 : w7.cell? ⟨w.heap.size + 1, 0, none⟩ = some (.string (str lo)) := rs_.cell 0
  have s1 : w7.cell? ⟨w.heap.size + 1, 1, none⟩ = some (.string (str hi)) := rs_.cell 1
  have zs := rs_.lt
  clear ra_ rs_
  go_wp2_with (go_at_call 33; refine stopAt ?_)
  unfold Hid
  refine (cx1 _ Hv7.out (fun k hk => Nat.lt_of_lt_of_le (HS0.out k hk) ((HS1.out.trans HS7.out).size))).mono ?_
  rintro e w8 ⟨vx, rfl, hx, hS⟩
  have HS8 := Lib.hid (HS7.out.trans hS)
  have Hv8 := Lib.hid (Hv7.out.keepAll hS)
  have RL1 := Lib.hid (RL1.out.keep hS trivial)
  have RL2 := Lib.hid (RL2.out.keep hS trivial)
  have Hx8 := Lib.hid hx
  clear hx
  clear hS
  clear a0 a1 s0 s1 zs
  obtain ⟨Ax, cx, rfl, hx1, hx2⟩ := OwnP.form Hx8.out
  unfold maxLen at hx2
  have ra_ := RA.out.keep HS8.out trivial
  have rs_ := RS.out.keep HS8.out trivial
  have a0 : w8.cell? ⟨w.heap.size, 0, none⟩ = some (.int .i64 a.wall) := ra_.cell 0
  have a1 : w8.cell? ⟨w.heap.size, 1, none⟩ = some (.int .i64 a.tie) := ra_.cell 1
  have s0 : w8.cell? ⟨w.heap.size + 1, 0, none⟩ = some (.string (str lo)) := rs_.cell 0
  have s1 : w8.cell? ⟨w.heap.size + 1, 1, none⟩ = some (.string (str hi)) := rs_.cell 1
  have zs := rs_.lt
  clear ra_ rs_
  go_wp2_with (go_at_call 54; refine stopAt ?_)
  unfold Hid
  refine (cx2 _ Hv8.out).mono ?_
  rintro e w9 ⟨vy, rfl, hy, hS⟩
  have HS9 := Lib.hid (HS8.out.trans hS)
  have Hv9 := Lib.hid (Hv8.out.keepAll hS)
  have RL1 := Lib.hid (RL1.out.keep hS trivial)
  have RL2 := Lib.hid (RL2.out.keep hS trivial)
  have Hx9 := Lib.hid (Hx8.out.keepAll hS)
  have Hy9 := Lib.hid hy
  clear hy
  clear hS
  clear a0 a1 s0 s1 zs
  obtain ⟨Ay, cy, rfl, hy1, hy2⟩ := OwnP.form Hy9.out
  unfold maxLen at hy2
  have ra_ := RA.out.keep HS9.out trivial
  have rs_ := RS.out.keep HS9.out trivial
  have a0 : w9.cell? ⟨w.heap.size, 0, none⟩ = some (.int .i64 a.wall) := ra_.cell 0
  have a1 : w9.cell? ⟨w.heap.size, 1, none⟩ = some (.int .i64 a.tie) := ra_.cell 1
  have s0 : w9.cell? ⟨w.heap.size + 1, 0, none⟩ = some (.string (str lo)) := rs_.cell 0
  have s1 : w9.cell? ⟨w.heap.size + 1, 1, none⟩ = some (.string (str hi)) := rs_.cell 1
  have zs := rs_.lt
  clear ra_ rs_
  go_wp2_with (go_at_call 30; refine stopAt ?_)
  unfold Hid
  refine (ch1 _ Hv9.out).mono ?_
  rintro e w10 ⟨rfl, hS⟩
  have HS10 := Lib.hid (HS9.out.trans hS)
  have Hv10 := Lib.hid (Hv9.out.keepAll hS)
  have RL1 := Lib.hid (RL1.out.keep hS trivial)
  have RL2 := Lib.hid (RL2.out.keep hS trivial)
  have Hx10 := Lib.hid (Hx9.out.keepAll hS)
  have Hy10 := Lib.hid (Hy9.out.keepAll hS)
  clear hS
  clear a0 a1 s0 s1 zs
  go_wp2_with (go_at_call 57; refine stopAt ?_)
  unfold Hid
  generalize hW : World.alloc w10 _ = w11
  have hSw : Same (fun _ => True) w10 w11 := by rw [← hW]; exact (Same.refl _ _).alloc _
  have RH1 := Lib.hid (show Row w11 w10.heap.size 30 (lckCs h) by rw [← hW]; exact Row.new w10 30 (lckCs h))
  have HS11 := Lib.hid (HS10.out.trans hSw)
  have Hv11 := Lib.hid (Hv10.out.keepAll hSw)
  have zH1 := RH1.out.lt
  have RL1 := Lib.hid (RL1.out.keep hSw trivial)
  have RL2 := Lib.hid (RL2.out.keep hSw trivial)
  have Hx11 := Lib.hid (Hx10.out.keepAll hSw)
  have Hy11 := Lib.hid (Hy10.out.keepAll hSw)
  clear hW hSw
  refine (ch2 _ Hv11.out).mono ?_
  rintro e w12 ⟨rfl, hS⟩
  have HS12 := Lib.hid (HS11.out.trans hS)
  have Hv12 := Lib.hid (Hv11.out.keepAll hS)
  have RL1 := Lib.hid (RL1.out.keep hS trivial)
  have RL2 := Lib.hid (RL2.out.keep hS trivial)
  have Hx12 := Lib.hid (Hx11.out.keepAll hS)
  have Hy12 := Lib.hid (Hy11.out.keepAll hS)
  have RH1 := Lib.hid (RH1.out.keep hS trivial)
  clear hS
  go_wp2
  generalize hW : World.alloc w12 _ = w13
  have hSw : Same (fun _ => True) w12 w13 := by rw [← hW]; exact (Same.refl _ _).alloc _
  have RH2 := Lib.hid (show Row w13 w12.heap.size 30 (lckCs h) by rw [← hW]; exact Row.new w12 30 (lckCs h))
  have RH1 := Lib.hid (RH1.out.keep hSw trivial)
  have HS13 := Lib.hid (HS12.out.trans hSw)
  have Hv13 := Lib.hid (Hv12.out.keepAll hSw)
  have RL1 := Lib.hid (RL1.out.keep hSw trivial)
  have RL2 := Lib.hid (RL2.out.keep hSw trivial)
  have Hx13 := Lib.hid (Hx12.out.keepAll hSw)
  have Hy13 := Lib.hid (Hy12.out.keepAll hSw)
  clear hW hSw
  have l0 : w13.cell? ⟨w4.heap.size, 0, none⟩ = some (.int .i64 l.by_.node) := RL1.out.cell 0
  have l1 : w13.cell? ⟨w4.heap.size, 1, none⟩ = some (.int .i64 l.by_.life) := RL1.out.cell 1
  have l2 : w13.cell? ⟨w4.heap.size, 2, none⟩ = some (.int .i64 l.by_.seq) := RL1.out.cell 2
  have l3 : w13.cell? ⟨w4.heap.size, 3, none⟩ = some (.int .i64 l.by_.attempt) := RL1.out.cell 3
  have l4 : w13.cell? ⟨w4.heap.size, 4, none⟩ = some (.int .i64 l.home) := RL1.out.cell 4
  have l5 : w13.cell? ⟨w4.heap.size, 5, none⟩ = some (.int .i64 l.at_.wall) := RL1.out.cell 5
  have l6 : w13.cell? ⟨w4.heap.size, 6, none⟩ = some (.int .i64 l.at_.tie) := RL1.out.cell 6
  have l7 : w13.cell? ⟨w4.heap.size, 7, none⟩ = some (.bool l.drop) := RL1.out.cell 7
  have l8 : w13.cell? ⟨w4.heap.size, 8, none⟩ = some (.string (str l.data)) := RL1.out.cell 8
  have m0 : w13.cell? ⟨w6.heap.size, 0, none⟩ = some (.int .i64 l.by_.node) := RL2.out.cell 0
  have m1 : w13.cell? ⟨w6.heap.size, 1, none⟩ = some (.int .i64 l.by_.life) := RL2.out.cell 1
  have m2 : w13.cell? ⟨w6.heap.size, 2, none⟩ = some (.int .i64 l.by_.seq) := RL2.out.cell 2
  have m3 : w13.cell? ⟨w6.heap.size, 3, none⟩ = some (.int .i64 l.by_.attempt) := RL2.out.cell 3
  have m4 : w13.cell? ⟨w6.heap.size, 4, none⟩ = some (.int .i64 l.home) := RL2.out.cell 4
  have m5 : w13.cell? ⟨w6.heap.size, 5, none⟩ = some (.int .i64 l.at_.wall) := RL2.out.cell 5
  have m6 : w13.cell? ⟨w6.heap.size, 6, none⟩ = some (.int .i64 l.at_.tie) := RL2.out.cell 6
  have m7 : w13.cell? ⟨w6.heap.size, 7, none⟩ = some (.bool l.drop) := RL2.out.cell 7
  have m8 : w13.cell? ⟨w6.heap.size, 8, none⟩ = some (.string (str l.data)) := RL2.out.cell 8
  have h0 : w13.cell? ⟨w10.heap.size, 0, none⟩ = some (.int .i64 h.by_.node) := RH1.out.cell 0
  have h1 : w13.cell? ⟨w10.heap.size, 1, none⟩ = some (.int .i64 h.by_.life) := RH1.out.cell 1
  have h2 : w13.cell? ⟨w10.heap.size, 2, none⟩ = some (.int .i64 h.by_.seq) := RH1.out.cell 2
  have h3 : w13.cell? ⟨w10.heap.size, 3, none⟩ = some (.int .i64 h.by_.attempt) := RH1.out.cell 3
  have h4 : w13.cell? ⟨w10.heap.size, 4, none⟩ = some (.int .i64 h.home) := RH1.out.cell 4
  have h5 : w13.cell? ⟨w10.heap.size, 5, none⟩ = some (.int .i64 h.at_.wall) := RH1.out.cell 5
  have h6 : w13.cell? ⟨w10.heap.size, 6, none⟩ = some (.int .i64 h.at_.tie) := RH1.out.cell 6
  have h7 : w13.cell? ⟨w10.heap.size, 7, none⟩ = some (.bool h.drop) := RH1.out.cell 7
  have h8 : w13.cell? ⟨w10.heap.size, 8, none⟩ = some (.string (str h.data)) := RH1.out.cell 8
  have n0 : w13.cell? ⟨w12.heap.size, 0, none⟩ = some (.int .i64 h.by_.node) := RH2.out.cell 0
  have n1 : w13.cell? ⟨w12.heap.size, 1, none⟩ = some (.int .i64 h.by_.life) := RH2.out.cell 1
  have n2 : w13.cell? ⟨w12.heap.size, 2, none⟩ = some (.int .i64 h.by_.seq) := RH2.out.cell 2
  have n3 : w13.cell? ⟨w12.heap.size, 3, none⟩ = some (.int .i64 h.by_.attempt) := RH2.out.cell 3
  have n4 : w13.cell? ⟨w12.heap.size, 4, none⟩ = some (.int .i64 h.home) := RH2.out.cell 4
  have n5 : w13.cell? ⟨w12.heap.size, 5, none⟩ = some (.int .i64 h.at_.wall) := RH2.out.cell 5
  have n6 : w13.cell? ⟨w12.heap.size, 6, none⟩ = some (.int .i64 h.at_.tie) := RH2.out.cell 6
  have n7 : w13.cell? ⟨w12.heap.size, 7, none⟩ = some (.bool h.drop) := RH2.out.cell 7
  have n8 : w13.cell? ⟨w12.heap.size, 8, none⟩ = some (.string (str h.data)) := RH2.out.cell 8
  have rt_ := RT.out.keep HS13.out trivial
  have t0 : w13.cell? ⟨w.heap.size + 2, 0, none⟩ = some (.int .i64 by_.node) := rt_.cell 0
  have t1 : w13.cell? ⟨w.heap.size + 2, 1, none⟩ = some (.int .i64 by_.life) := rt_.cell 1
  have t2 : w13.cell? ⟨w.heap.size + 2, 2, none⟩ = some (.int .i64 by_.seq) := rt_.cell 2
  have t3 : w13.cell? ⟨w.heap.size + 2, 3, none⟩ = some (.int .i64 by_.attempt) := rt_.cell 3
  clear rt_
  refine wp_region_eq_lit (vs := [(.string (str g1)), (.string (str g1)), (.bool false), (.bool false), (.bool g2), (.bool g2), (.bool false), (.bool false), (.bool false), (lckV l), (lckV l), (.bool false), (.bool false), (.bool false), (.bool lb), (.bool lb), (.bool false), (.bool false), (.bool false), (.int .i64 E), (.int .i64 E), (.bool false), (.bool false), (.bool false), (lckV h), (lckV h), (.bool false), (.bool false), (.bool false), (.bool hb), (.bool hb), (.bool false), (.bool false), (.bool false), (.slice Ax L.length cx), (.int .i64 L.length), (.slice Ay L.length cy), (.int .i64 L.length), (.bool false), (.bool false), (.bool false), (.slice A cs.length cp), (tryV by_), (.bool mi), (.slice A cs.length cp), (tryV by_), (.bool mi), (.bool false), (.bool false), (.bool false), (.slice A cs.length cp), (.bool true), (.slice A cs.length cp), (.bool true), (.bool false), (.bool false)]) (by kernel_rfl) (by kernel_rfl) rfl rfl ?_ ?_
  · refine ⟨?_, ?_, ?_, ?_, ?_, ?_, ?_, ?_, ?_, ?_, ?_, ?_, ?_, ?_, ?_, ?_, ?_, ?_, ?_, ?_, ?_, ?_, ?_, ?_, ?_, ?_, ?_, ?_, ?_, ?_, ?_, ?_, ?_, ?_, ?_, ?_, ?_, ?_, ?_, ?_, ?_, ?_, ?_, ?_, ?_, ?_, ?_, ?_, ?_, ?_, ?_, ?_, ?_, ?_, ?_, ?_, trivial⟩
    · intro ac wc hs hd hz hf hw K hK
      have e0 : ac.eval (.tmp 13) = (.string (str g1)) := hf 13 rfl
      clear hd hz hf hw
      simp only [Region.wanted, if_true, Oper.wp, execOp, resolve, List.map_toArray, List.map_cons, List.map_nil, Option.map_some, Option.map_none, e0]
      go_simp
      exact hK _ _ rfl (Same.refl _ _)
    · intro ac wc hs hd hz hf hw K hK
      have e0 : ac.eval (.tmp 15) = (.string (str g1)) := hf 15 rfl
      clear hd hz hf hw
      simp only [Region.wanted, if_true, Oper.wp, execOp, resolve, List.map_toArray, List.map_cons, List.map_nil, Option.map_some, Option.map_none, e0]
      go_simp
      exact hK _ _ rfl (Same.refl _ _)
    · intro ac wc hs hd hz hf hw K hK
      have e0 : ac.eval (.tmp 86) = (.string (str g1)) := hw 0 rfl
      have e1 : ac.eval (.tmp 87) = (.string (str g1)) := hw 1 rfl
      clear hd hz hf hw
      simp only [Region.wanted, if_true, Oper.wp, execOp, resolve, List.map_toArray, List.map_cons, List.map_nil, Option.map_some, Option.map_none, e0, e1]
      go_simp
      exact hK _ _ rfl (Same.refl _ _)
    · intro ac wc hs hd hz hf hw K hK
      have e0 : ac.eval (.tmp 88) = (.bool false) := hw 2 rfl
      clear hd hz hf hw
      simp only [Region.wanted, if_true, Oper.wp, execOp, resolve, List.map_toArray, List.map_cons, List.map_nil, Option.map_some, Option.map_none, e0]
      go_simp
      exact hK _ _ rfl (Same.refl _ _)
    · intro ac wc hs hd hz hf hw K hK
      have eg : ac.eval (.tmp 89) = .bool false := hw 3 rfl
      refine run_wanted (j := 3) (d := 89) (b := false) rfl rfl hz (of_decide_eq_true rfl) eg ?_
      clear eg
      have e0 : ac.eval (.tmp 14) = (.bool g2) := hf 14 rfl
      clear hd hz hf hw
      simp only [Oper.wp, execOp, resolve, List.map_toArray, List.map_cons, List.map_nil, Option.map_some, Option.map_none, e0]
      go_simp
      exact hK _ _ rfl (Same.refl _ _)
    · intro ac wc hs hd hz hf hw K hK
      have eg : ac.eval (.tmp 89) = .bool false := hw 3 rfl
      refine run_wanted (j := 3) (d := 89) (b := false) rfl rfl hz (of_decide_eq_true rfl) eg ?_
      clear eg
      have e0 : ac.eval (.tmp 16) = (.bool g2) := hf 16 rfl
      clear hd hz hf hw
      simp only [Oper.wp, execOp, resolve, List.map_toArray, List.map_cons, List.map_nil, Option.map_some, Option.map_none, e0]
      go_simp
      exact hK _ _ rfl (Same.refl _ _)
    · intro ac wc hs hd hz hf hw K hK
      have eg : ac.eval (.tmp 89) = .bool false := hw 3 rfl
      refine run_wanted (j := 3) (d := 89) (b := false) rfl rfl hz (of_decide_eq_true rfl) eg ?_
      clear eg
      have e0 : ac.eval (.tmp 90) = (.bool g2) := hw 4 rfl
      have e1 : ac.eval (.tmp 91) = (.bool g2) := hw 5 rfl
      clear hd hz hf hw
      simp only [Oper.wp, execOp, resolve, List.map_toArray, List.map_cons, List.map_nil, Option.map_some, Option.map_none, e0, e1]
      go_simp
      exact hK _ _ rfl (Same.refl _ _)
    · intro ac wc hs hd hz hf hw K hK
      have e0 : ac.eval (.tmp 89) = (.bool false) := hw 3 rfl
      have e1 : ac.eval (.tmp 92) = (.bool false) := hw 6 rfl
      clear hd hz hf hw
      simp only [Region.wanted, if_true, Oper.wp, execOp, resolve, List.map_toArray, List.map_cons, List.map_nil, Option.map_some, Option.map_none, e0, e1]
      go_simp
      exact hK _ _ rfl (Same.refl _ _)
    · intro ac wc hs hd hz hf hw K hK
      have e0 : ac.eval (.tmp 93) = (.bool false) := hw 7 rfl
      clear hd hz hf hw
      simp only [Region.wanted, if_true, Oper.wp, execOp, resolve, List.map_toArray, List.map_cons, List.map_nil, Option.map_some, Option.map_none, e0]
      go_simp
      exact hK _ _ rfl (Same.refl _ _)
    · intro ac wc hs hd hz hf hw K hK
      have eg : ac.eval (.tmp 94) = .bool false := hw 8 rfl
      refine run_wanted (j := 8) (d := 94) (b := false) rfl rfl hz (of_decide_eq_true rfl) eg ?_
      clear eg
      have e0 : ac.eval (.tmp 17) = (.pointer (some ⟨w4.heap.size, 0, none⟩)) := hf 17 rfl
      have m0 : wc.cell? ⟨w4.heap.size, 0, none⟩ = some (.int .i64 l.by_.node) := hs.cell (p := ⟨w4.heap.size, 0, none⟩) trivial l0
      have m1 : wc.cell? ⟨w4.heap.size, 1, none⟩ = some (.int .i64 l.by_.life) := hs.cell (p := ⟨w4.heap.size, 1, none⟩) trivial l1
      have m2 : wc.cell? ⟨w4.heap.size, 2, none⟩ = some (.int .i64 l.by_.seq) := hs.cell (p := ⟨w4.heap.size, 2, none⟩) trivial l2
      have m3 : wc.cell? ⟨w4.heap.size, 3, none⟩ = some (.int .i64 l.by_.attempt) := hs.cell (p := ⟨w4.heap.size, 3, none⟩) trivial l3
      have m4 : wc.cell? ⟨w4.heap.size, 4, none⟩ = some (.int .i64 l.home) := hs.cell (p := ⟨w4.heap.size, 4, none⟩) trivial l4
      have m5 : wc.cell? ⟨w4.heap.size, 5, none⟩ = some (.int .i64 l.at_.wall) := hs.cell (p := ⟨w4.heap.size, 5, none⟩) trivial l5
      have m6 : wc.cell? ⟨w4.heap.size, 6, none⟩ = some (.int .i64 l.at_.tie) := hs.cell (p := ⟨w4.heap.size, 6, none⟩) trivial l6
      have m7 : wc.cell? ⟨w4.heap.size, 7, none⟩ = some (.bool l.drop) := hs.cell (p := ⟨w4.heap.size, 7, none⟩) trivial l7
      have m8 : wc.cell? ⟨w4.heap.size, 8, none⟩ = some (.string (str l.data)) := hs.cell (p := ⟨w4.heap.size, 8, none⟩) trivial l8
      clear hd hz hf hw
      simp only [Oper.wp, execOp, resolve, List.map_toArray, List.map_cons, List.map_nil, Option.map_some, Option.map_none, e0]
      go_simp
      exact hK _ _ rfl (Same.refl _ _)
    · intro ac wc hs hd hz hf hw K hK
      have eg : ac.eval (.tmp 94) = .bool false := hw 8 rfl
      refine run_wanted (j := 8) (d := 94) (b := false) rfl rfl hz (of_decide_eq_true rfl) eg ?_
      clear eg
      have e0 : ac.eval (.tmp 19) = (.pointer (some ⟨w6.heap.size, 0, none⟩)) := hf 19 rfl
      have m0 : wc.cell? ⟨w6.heap.size, 0, none⟩ = some (.int .i64 l.by_.node) := hs.cell (p := ⟨w6.heap.size, 0, none⟩) trivial m0
      have m1 : wc.cell? ⟨w6.heap.size, 1, none⟩ = some (.int .i64 l.by_.life) := hs.cell (p := ⟨w6.heap.size, 1, none⟩) trivial m1
      have m2 : wc.cell? ⟨w6.heap.size, 2, none⟩ = some (.int .i64 l.by_.seq) := hs.cell (p := ⟨w6.heap.size, 2, none⟩) trivial m2
      have m3 : wc.cell? ⟨w6.heap.size, 3, none⟩ = some (.int .i64 l.by_.attempt) := hs.cell (p := ⟨w6.heap.size, 3, none⟩) trivial m3
      have m4 : wc.cell? ⟨w6.heap.size, 4, none⟩ = some (.int .i64 l.home) := hs.cell (p := ⟨w6.heap.size, 4, none⟩) trivial m4
      have m5 : wc.cell? ⟨w6.heap.size, 5, none⟩ = some (.int .i64 l.at_.wall) := hs.cell (p := ⟨w6.heap.size, 5, none⟩) trivial m5
      have m6 : wc.cell? ⟨w6.heap.size, 6, none⟩ = some (.int .i64 l.at_.tie) := hs.cell (p := ⟨w6.heap.size, 6, none⟩) trivial m6
      have m7 : wc.cell? ⟨w6.heap.size, 7, none⟩ = some (.bool l.drop) := hs.cell (p := ⟨w6.heap.size, 7, none⟩) trivial m7
      have m8 : wc.cell? ⟨w6.heap.size, 8, none⟩ = some (.string (str l.data)) := hs.cell (p := ⟨w6.heap.size, 8, none⟩) trivial m8
      clear hd hz hf hw
      simp only [Oper.wp, execOp, resolve, List.map_toArray, List.map_cons, List.map_nil, Option.map_some, Option.map_none, e0]
      go_simp
      exact hK _ _ rfl (Same.refl _ _)
    · intro ac wc hs hd hz hf hw K hK
      have eg : ac.eval (.tmp 94) = .bool false := hw 8 rfl
      refine run_wanted (j := 8) (d := 94) (b := false) rfl rfl hz (of_decide_eq_true rfl) eg ?_
      clear eg
      have e0 : ac.eval (.tmp 95) = (lckV l) := hw 9 rfl
      have e1 : ac.eval (.tmp 96) = (lckV l) := hw 10 rfl
      clear hd hz hf hw
      simp only [Oper.wp, execOp, resolve, List.map_toArray, List.map_cons, List.map_nil, Option.map_some, Option.map_none, e0, e1]
      go_simp
      exact hK _ _ rfl (Same.refl _ _)
    · intro ac wc hs hd hz hf hw K hK
      have e0 : ac.eval (.tmp 94) = (.bool false) := hw 8 rfl
      have e1 : ac.eval (.tmp 97) = (.bool false) := hw 11 rfl
      clear hd hz hf hw
      simp only [Region.wanted, if_true, Oper.wp, execOp, resolve, List.map_toArray, List.map_cons, List.map_nil, Option.map_some, Option.map_none, e0, e1]
      go_simp
      exact hK _ _ rfl (Same.refl _ _)
    · intro ac wc hs hd hz hf hw K hK
      have e0 : ac.eval (.tmp 98) = (.bool false) := hw 12 rfl
      clear hd hz hf hw
      simp only [Region.wanted, if_true, Oper.wp, execOp, resolve, List.map_toArray, List.map_cons, List.map_nil, Option.map_some, Option.map_none, e0]
      go_simp
      exact hK _ _ rfl (Same.refl _ _)
    · intro ac wc hs hd hz hf hw K hK
      have eg : ac.eval (.tmp 99) = .bool false := hw 13 rfl
      refine run_wanted (j := 13) (d := 99) (b := false) rfl rfl hz (of_decide_eq_true rfl) eg ?_
      clear eg
      have e0 : ac.eval (.tmp 18) = (.bool lb) := hf 18 rfl
      clear hd hz hf hw
      simp only [Oper.wp, execOp, resolve, List.map_toArray, List.map_cons, List.map_nil, Option.map_some, Option.map_none, e0]
      go_simp
      exact hK _ _ rfl (Same.refl _ _)
    · intro ac wc hs hd hz hf hw K hK
      have eg : ac.eval (.tmp 99) = .bool false := hw 13 rfl
      refine run_wanted (j := 13) (d := 99) (b := false) rfl rfl hz (of_decide_eq_true rfl) eg ?_
      clear eg
      have e0 : ac.eval (.tmp 20) = (.bool lb) := hf 20 rfl
      clear hd hz hf hw
      simp only [Oper.wp, execOp, resolve, List.map_toArray, List.map_cons, List.map_nil, Option.map_some, Option.map_none, e0]
      go_simp
      exact hK _ _ rfl (Same.refl _ _)
    · intro ac wc hs hd hz hf hw K hK
      have eg : ac.eval (.tmp 99) = .bool false := hw 13 rfl
      refine run_wanted (j := 13) (d := 99) (b := false) rfl rfl hz (of_decide_eq_true rfl) eg ?_
      clear eg
      have e0 : ac.eval (.tmp 100) = (.bool lb) := hw 14 rfl
      have e1 : ac.eval (.tmp 101) = (.bool lb) := hw 15 rfl
      clear hd hz hf hw
      simp only [Oper.wp, execOp, resolve, List.map_toArray, List.map_cons, List.map_nil, Option.map_some, Option.map_none, e0, e1]
      go_simp
      exact hK _ _ rfl (Same.refl _ _)
    · intro ac wc hs hd hz hf hw K hK
      have e0 : ac.eval (.tmp 99) = (.bool false) := hw 13 rfl
      have e1 : ac.eval (.tmp 102) = (.bool false) := hw 16 rfl
      clear hd hz hf hw
      simp only [Region.wanted, if_true, Oper.wp, execOp, resolve, List.map_toArray, List.map_cons, List.map_nil, Option.map_some, Option.map_none, e0, e1]
      go_simp
      exact hK _ _ rfl (Same.refl _ _)
    · intro ac wc hs hd hz hf hw K hK
      have e0 : ac.eval (.tmp 103) = (.bool false) := hw 17 rfl
      clear hd hz hf hw
      simp only [Region.wanted, if_true, Oper.wp, execOp, resolve, List.map_toArray, List.map_cons, List.map_nil, Option.map_some, Option.map_none, e0]
      go_simp
      exact hK _ _ rfl (Same.refl _ _)
    · intro ac wc hs hd hz hf hw K hK
      have eg : ac.eval (.tmp 104) = .bool false := hw 18 rfl
      refine run_wanted (j := 18) (d := 104) (b := false) rfl rfl hz (of_decide_eq_true rfl) eg ?_
      clear eg
      have e0 : ac.eval (.tmp 22) = (.int .i64 E) := hf 22 rfl
      clear hd hz hf hw
      simp only [Oper.wp, execOp, resolve, List.map_toArray, List.map_cons, List.map_nil, Option.map_some, Option.map_none, e0]
      go_simp
      exact hK _ _ rfl (Same.refl _ _)
    · intro ac wc hs hd hz hf hw K hK
      have eg : ac.eval (.tmp 104) = .bool false := hw 18 rfl
      refine run_wanted (j := 18) (d := 104) (b := false) rfl rfl hz (of_decide_eq_true rfl) eg ?_
      clear eg
      have e0 : ac.eval (.tmp 24) = (.int .i64 E) := hf 24 rfl
      clear hd hz hf hw
      simp only [Oper.wp, execOp, resolve, List.map_toArray, List.map_cons, List.map_nil, Option.map_some, Option.map_none, e0]
      go_simp
      exact hK _ _ rfl (Same.refl _ _)
    · intro ac wc hs hd hz hf hw K hK
      have eg : ac.eval (.tmp 104) = .bool false := hw 18 rfl
      refine run_wanted (j := 18) (d := 104) (b := false) rfl rfl hz (of_decide_eq_true rfl) eg ?_
      clear eg
      have e0 : ac.eval (.tmp 105) = (.int .i64 E) := hw 19 rfl
      have e1 : ac.eval (.tmp 106) = (.int .i64 E) := hw 20 rfl
      clear hd hz hf hw
      simp only [Oper.wp, execOp, resolve, List.map_toArray, List.map_cons, List.map_nil, Option.map_some, Option.map_none, e0, e1]
      go_simp
      exact hK _ _ rfl (Same.refl _ _)
    · intro ac wc hs hd hz hf hw K hK
      have e0 : ac.eval (.tmp 104) = (.bool false) := hw 18 rfl
      have e1 : ac.eval (.tmp 107) = (.bool false) := hw 21 rfl
      clear hd hz hf hw
      simp only [Region.wanted, if_true, Oper.wp, execOp, resolve, List.map_toArray, List.map_cons, List.map_nil, Option.map_some, Option.map_none, e0, e1]
      go_simp
      exact hK _ _ rfl (Same.refl _ _)
    · intro ac wc hs hd hz hf hw K hK
      have e0 : ac.eval (.tmp 108) = (.bool false) := hw 22 rfl
      clear hd hz hf hw
      simp only [Region.wanted, if_true, Oper.wp, execOp, resolve, List.map_toArray, List.map_cons, List.map_nil, Option.map_some, Option.map_none, e0]
      go_simp
      exact hK _ _ rfl (Same.refl _ _)
    · intro ac wc hs hd hz hf hw K hK
      have eg : ac.eval (.tmp 109) = .bool false := hw 23 rfl
      refine run_wanted (j := 23) (d := 109) (b := false) rfl rfl hz (of_decide_eq_true rfl) eg ?_
      clear eg
      have e0 : ac.eval (.tmp 25) = (.pointer (some ⟨w10.heap.size, 0, none⟩)) := hf 25 rfl
      have m0 : wc.cell? ⟨w10.heap.size, 0, none⟩ = some (.int .i64 h.by_.node) := hs.cell (p := ⟨w10.heap.size, 0, none⟩) trivial h0
      have m1 : wc.cell? ⟨w10.heap.size, 1, none⟩ = some (.int .i64 h.by_.life) := hs.cell (p := ⟨w10.heap.size, 1, none⟩) trivial h1
      have m2 : wc.cell? ⟨w10.heap.size, 2, none⟩ = some (.int .i64 h.by_.seq) := hs.cell (p := ⟨w10.heap.size, 2, none⟩) trivial h2
      have m3 : wc.cell? ⟨w10.heap.size, 3, none⟩ = some (.int .i64 h.by_.attempt) := hs.cell (p := ⟨w10.heap.size, 3, none⟩) trivial h3
      have m4 : wc.cell? ⟨w10.heap.size, 4, none⟩ = some (.int .i64 h.home) := hs.cell (p := ⟨w10.heap.size, 4, none⟩) trivial h4
      have m5 : wc.cell? ⟨w10.heap.size, 5, none⟩ = some (.int .i64 h.at_.wall) := hs.cell (p := ⟨w10.heap.size, 5, none⟩) trivial h5
      have m6 : wc.cell? ⟨w10.heap.size, 6, none⟩ = some (.int .i64 h.at_.tie) := hs.cell (p := ⟨w10.heap.size, 6, none⟩) trivial h6
      have m7 : wc.cell? ⟨w10.heap.size, 7, none⟩ = some (.bool h.drop) := hs.cell (p := ⟨w10.heap.size, 7, none⟩) trivial h7
      have m8 : wc.cell? ⟨w10.heap.size, 8, none⟩ = some (.string (str h.data)) := hs.cell (p := ⟨w10.heap.size, 8, none⟩) trivial h8
      clear hd hz hf hw
      simp only [Oper.wp, execOp, resolve, List.map_toArray, List.map_cons, List.map_nil, Option.map_some, Option.map_none, e0]
      go_simp
      exact hK _ _ rfl (Same.refl _ _)
    · intro ac wc hs hd hz hf hw K hK
      have eg : ac.eval (.tmp 109) = .bool false := hw 23 rfl
      refine run_wanted (j := 23) (d := 109) (b := false) rfl rfl hz (of_decide_eq_true rfl) eg ?_
      clear eg
      have e0 : ac.eval (.tmp 27) = (.pointer (some ⟨w12.heap.size, 0, none⟩)) := hf 27 rfl
      have m0 : wc.cell? ⟨w12.heap.size, 0, none⟩ = some (.int .i64 h.by_.node) := hs.cell (p := ⟨w12.heap.size, 0, none⟩) trivial n0
      have m1 : wc.cell? ⟨w12.heap.size, 1, none⟩ = some (.int .i64 h.by_.life) := hs.cell (p := ⟨w12.heap.size, 1, none⟩) trivial n1
      have m2 : wc.cell? ⟨w12.heap.size, 2, none⟩ = some (.int .i64 h.by_.seq) := hs.cell (p := ⟨w12.heap.size, 2, none⟩) trivial n2
      have m3 : wc.cell? ⟨w12.heap.size, 3, none⟩ = some (.int .i64 h.by_.attempt) := hs.cell (p := ⟨w12.heap.size, 3, none⟩) trivial n3
      have m4 : wc.cell? ⟨w12.heap.size, 4, none⟩ = some (.int .i64 h.home) := hs.cell (p := ⟨w12.heap.size, 4, none⟩) trivial n4
      have m5 : wc.cell? ⟨w12.heap.size, 5, none⟩ = some (.int .i64 h.at_.wall) := hs.cell (p := ⟨w12.heap.size, 5, none⟩) trivial n5
      have m6 : wc.cell? ⟨w12.heap.size, 6, none⟩ = some (.int .i64 h.at_.tie) := hs.cell (p := ⟨w12.heap.size, 6, none⟩) trivial n6
      have m7 : wc.cell? ⟨w12.heap.size, 7, none⟩ = some (.bool h.drop) := hs.cell (p := ⟨w12.heap.size, 7, none⟩) trivial n7
      have m8 : wc.cell? ⟨w12.heap.size, 8, none⟩ = some (.string (str h.data)) := hs.cell (p := ⟨w12.heap.size, 8, none⟩) trivial n8
      clear hd hz hf hw
      simp only [Oper.wp, execOp, resolve, List.map_toArray, List.map_cons, List.map_nil, Option.map_some, Option.map_none, e0]
      go_simp
      exact hK _ _ rfl (Same.refl _ _)
    · intro ac wc hs hd hz hf hw K hK
      have eg : ac.eval (.tmp 109) = .bool false := hw 23 rfl
      refine run_wanted (j := 23) (d := 109) (b := false) rfl rfl hz (of_decide_eq_true rfl) eg ?_
      clear eg
      have e0 : ac.eval (.tmp 110) = (lckV h) := hw 24 rfl
      have e1 : ac.eval (.tmp 111) = (lckV h) := hw 25 rfl
      clear hd hz hf hw
      simp only [Oper.wp, execOp, resolve, List.map_toArray, List.map_cons, List.map_nil, Option.map_some, Option.map_none, e0, e1]
      go_simp
      exact hK _ _ rfl (Same.refl _ _)
    · intro ac wc hs hd hz hf hw K hK
      have e0 : ac.eval (.tmp 109) = (.bool false) := hw 23 rfl
      have e1 : ac.eval (.tmp 112) = (.bool false) := hw 26 rfl
      clear hd hz hf hw
      simp only [Region.wanted, if_true, Oper.wp, execOp, resolve, List.map_toArray, List.map_cons, List.map_nil, Option.map_some, Option.map_none, e0, e1]
      go_simp
      exact hK _ _ rfl (Same.refl _ _)
    · intro ac wc hs hd hz hf hw K hK
      have e0 : ac.eval (.tmp 113) = (.bool false) := hw 27 rfl
      clear hd hz hf hw
      simp only [Region.wanted, if_true, Oper.wp, execOp, resolve, List.map_toArray, List.map_cons, List.map_nil, Option.map_some, Option.map_none, e0]
      go_simp
      exact hK _ _ rfl (Same.refl _ _)
    · intro ac wc hs hd hz hf hw K hK
      have eg : ac.eval (.tmp 114) = .bool false := hw 28 rfl
      refine run_wanted (j := 28) (d := 114) (b := false) rfl rfl hz (of_decide_eq_true rfl) eg ?_
      clear eg
      have e0 : ac.eval (.tmp 26) = (.bool hb) := hf 26 rfl
      clear hd hz hf hw
      simp only [Oper.wp, execOp, resolve, List.map_toArray, List.map_cons, List.map_nil, Option.map_some, Option.map_none, e0]
      go_simp
      exact hK _ _ rfl (Same.refl _ _)
    · intro ac wc hs hd hz hf hw K hK
      have eg : ac.eval (.tmp 114) = .bool false := hw 28 rfl
      refine run_wanted (j := 28) (d := 114) (b := false) rfl rfl hz (of_decide_eq_true rfl) eg ?_
      clear eg
      have e0 : ac.eval (.tmp 28) = (.bool hb) := hf 28 rfl
      clear hd hz hf hw
      simp only [Oper.wp, execOp, resolve, List.map_toArray, List.map_cons, List.map_nil, Option.map_some, Option.map_none, e0]
      go_simp
      exact hK _ _ rfl (Same.refl _ _)
    · intro ac wc hs hd hz hf hw K hK
      have eg : ac.eval (.tmp 114) = .bool false := hw 28 rfl
      refine run_wanted (j := 28) (d := 114) (b := false) rfl rfl hz (of_decide_eq_true rfl) eg ?_
      clear eg
      have e0 : ac.eval (.tmp 115) = (.bool hb) := hw 29 rfl
      have e1 : ac.eval (.tmp 116) = (.bool hb) := hw 30 rfl
      clear hd hz hf hw
      simp only [Oper.wp, execOp, resolve, List.map_toArray, List.map_cons, List.map_nil, Option.map_some, Option.map_none, e0, e1]
      go_simp
      exact hK _ _ rfl (Same.refl _ _)
    · intro ac wc hs hd hz hf hw K hK
      have e0 : ac.eval (.tmp 114) = (.bool false) := hw 28 rfl
      have e1 : ac.eval (.tmp 117) = (.bool false) := hw 31 rfl
      clear hd hz hf hw
      simp only [Region.wanted, if_true, Oper.wp, execOp, resolve, List.map_toArray, List.map_cons, List.map_nil, Option.map_some, Option.map_none, e0, e1]
      go_simp
      exact hK _ _ rfl (Same.refl _ _)
    · intro ac wc hs hd hz hf hw K hK
      have e0 : ac.eval (.tmp 118) = (.bool false) := hw 32 rfl
      clear hd hz hf hw
      simp only [Region.wanted, if_true, Oper.wp, execOp, resolve, List.map_toArray, List.map_cons, List.map_nil, Option.map_some, Option.map_none, e0]
      go_simp
      exact hK _ _ rfl (Same.refl _ _)
    · intro ac wc hs hd hz hf hw K hK
      have eg : ac.eval (.tmp 119) = .bool false := hw 33 rfl
      refine run_wanted (j := 33) (d := 119) (b := false) rfl rfl hz (of_decide_eq_true rfl) eg ?_
      clear eg
      have e0 : ac.eval (.tmp 21) = (.slice Ax L.length cx) := hf 21 rfl
      clear hd hz hf hw
      simp only [Oper.wp, execOp, resolve, List.map_toArray, List.map_cons, List.map_nil, Option.map_some, Option.map_none, e0]
      go_simp
      exact hK _ _ rfl (Same.refl _ _)
    · intro ac wc hs hd hz hf hw K hK
      have eg : ac.eval (.tmp 119) = .bool false := hw 33 rfl
      refine run_wanted (j := 33) (d := 119) (b := false) rfl rfl hz (of_decide_eq_true rfl) eg ?_
      clear eg
      have e0 : ac.eval (.tmp 120) = (.slice Ax L.length cx) := hw 34 rfl
      clear hd hz hf hw
      simp only [Oper.wp, execOp, resolve, List.map_toArray, List.map_cons, List.map_nil, Option.map_some, Option.map_none, e0]
      go_simp
      exact hK _ _ rfl (Same.refl _ _)
    · intro ac wc hs hd hz hf hw K hK
      have eg : ac.eval (.tmp 119) = .bool false := hw 33 rfl
      refine run_wanted (j := 33) (d := 119) (b := false) rfl rfl hz (of_decide_eq_true rfl) eg ?_
      clear eg
      have e0 : ac.eval (.tmp 23) = (.slice Ay L.length cy) := hf 23 rfl
      clear hd hz hf hw
      simp only [Oper.wp, execOp, resolve, List.map_toArray, List.map_cons, List.map_nil, Option.map_some, Option.map_none, e0]
      go_simp
      exact hK _ _ rfl (Same.refl _ _)
    · intro ac wc hs hd hz hf hw K hK
      have eg : ac.eval (.tmp 119) = .bool false := hw 33 rfl
      refine run_wanted (j := 33) (d := 119) (b := false) rfl rfl hz (of_decide_eq_true rfl) eg ?_
      clear eg
      have e0 : ac.eval (.tmp 122) = (.slice Ay L.length cy) := hw 36 rfl
      clear hd hz hf hw
      simp only [Oper.wp, execOp, resolve, List.map_toArray, List.map_cons, List.map_nil, Option.map_some, Option.map_none, e0]
      go_simp
      exact hK _ _ rfl (Same.refl _ _)
    · intro ac wc hs hd hz hf hw K hK
      have eg : ac.eval (.tmp 119) = .bool false := hw 33 rfl
      refine run_wanted (j := 33) (d := 119) (b := false) rfl rfl hz (of_decide_eq_true rfl) eg ?_
      clear eg
      have e0 : ac.eval (.tmp 121) = (.int .i64 L.length) := hw 35 rfl
      have e1 : ac.eval (.tmp 123) = (.int .i64 L.length) := hw 37 rfl
      clear hd hz hf hw
      simp only [Oper.wp, execOp, resolve, List.map_toArray, List.map_cons, List.map_nil, Option.map_some, Option.map_none, e0, e1]
      go_simp
      exact hK _ _ rfl (Same.refl _ _)
    · intro ac wc hs hd hz hf hw K hK
      have e0 : ac.eval (.tmp 119) = (.bool false) := hw 33 rfl
      have e1 : ac.eval (.tmp 124) = (.bool false) := hw 38 rfl
      clear hd hz hf hw
      simp only [Region.wanted, if_true, Oper.wp, execOp, resolve, List.map_toArray, List.map_cons, List.map_nil, Option.map_some, Option.map_none, e0, e1]
      go_simp
      exact hK _ _ rfl (Same.refl _ _)
    · intro ac wc hs hd hz hf hw K hK
      have e0 : ac.eval (.tmp 125) = (.bool false) := hw 39 rfl
      clear hd hz hf hw
      simp only [Region.wanted, if_true, Oper.wp, execOp, resolve, List.map_toArray, List.map_cons, List.map_nil, Option.map_some, Option.map_none, e0]
      go_simp
      exact hK _ _ rfl (Same.refl _ _)
    · intro ac wc hs hd hz hf hw K hK
      have eg : ac.eval (.tmp 126) = .bool false := hw 40 rfl
      refine run_wanted (j := 40) (d := 126) (b := false) rfl rfl hz (of_decide_eq_true rfl) eg ?_
      clear eg
      have e0 : ac.eval (.tmp 0) = (.slice A cs.length cp) := hf 0 rfl
      clear hd hz hf hw
      simp only [Oper.wp, execOp, resolve, List.map_toArray, List.map_cons, List.map_nil, Option.map_some, Option.map_none, e0]
      go_simp
      exact hK _ _ rfl (Same.refl _ _)
    · intro ac wc hs hd hz hf hw K hK
      have eg : ac.eval (.tmp 126) = .bool false := hw 40 rfl
      refine run_wanted (j := 40) (d := 126) (b := false) rfl rfl hz (of_decide_eq_true rfl) eg ?_
      clear eg
      have e0 : ac.eval (.tmp 10) = (.pointer (some ⟨w.heap.size + 2, 0, none⟩)) := hf 10 rfl
      have m0 : wc.cell? ⟨w.heap.size + 2, 0, none⟩ = some (.int .i64 by_.node) := hs.cell (p := ⟨w.heap.size + 2, 0, none⟩) trivial t0
      have m1 : wc.cell? ⟨w.heap.size + 2, 1, none⟩ = some (.int .i64 by_.life) := hs.cell (p := ⟨w.heap.size + 2, 1, none⟩) trivial t1
      have m2 : wc.cell? ⟨w.heap.size + 2, 2, none⟩ = some (.int .i64 by_.seq) := hs.cell (p := ⟨w.heap.size + 2, 2, none⟩) trivial t2
      have m3 : wc.cell? ⟨w.heap.size + 2, 3, none⟩ = some (.int .i64 by_.attempt) := hs.cell (p := ⟨w.heap.size + 2, 3, none⟩) trivial t3
      clear hd hz hf hw
      simp only [Oper.wp, execOp, resolve, List.map_toArray, List.map_cons, List.map_nil, Option.map_some, Option.map_none, e0]
      go_simp
      exact hK _ _ rfl (Same.refl _ _)
    · intro ac wc hs hd hz hf hw K hK
      have eg : ac.eval (.tmp 126) = .bool false := hw 40 rfl
      refine run_wanted (j := 40) (d := 126) (b := false) rfl rfl hz (of_decide_eq_true rfl) eg ?_
      clear eg
      have e0 : ac.eval (.tmp 127) = (.slice A cs.length cp) := hw 41 rfl
      have e1 : ac.eval (.tmp 128) = (tryV by_) := hw 42 rfl
      clear hd hz hf hw
      simp only [Oper.wp, execOp, resolve, List.map_toArray, List.map_cons, List.map_nil, Option.map_some, Option.map_none, e0, e1]
      go_simp
      refine (cm1 wc (Hv13.out.keepAll hs)).mono ?_
      rintro e wd ⟨rfl, hs2⟩
      exact hK _ _ rfl hs2
    · intro ac wc hs hd hz hf hw K hK
      have eg : ac.eval (.tmp 126) = .bool false := hw 40 rfl
      refine run_wanted (j := 40) (d := 126) (b := false) rfl rfl hz (of_decide_eq_true rfl) eg ?_
      clear eg
      have e0 : ac.eval (.tmp 0) = (.slice A cs.length cp) := hf 0 rfl
      clear hd hz hf hw
      simp only [Oper.wp, execOp, resolve, List.map_toArray, List.map_cons, List.map_nil, Option.map_some, Option.map_none, e0]
      go_simp
      exact hK _ _ rfl (Same.refl _ _)
    · intro ac wc hs hd hz hf hw K hK
      have eg : ac.eval (.tmp 126) = .bool false := hw 40 rfl
      refine run_wanted (j := 40) (d := 126) (b := false) rfl rfl hz (of_decide_eq_true rfl) eg ?_
      clear eg
      have e0 : ac.eval (.tmp 10) = (.pointer (some ⟨w.heap.size + 2, 0, none⟩)) := hf 10 rfl
      have m0 : wc.cell? ⟨w.heap.size + 2, 0, none⟩ = some (.int .i64 by_.node) := hs.cell (p := ⟨w.heap.size + 2, 0, none⟩) trivial t0
      have m1 : wc.cell? ⟨w.heap.size + 2, 1, none⟩ = some (.int .i64 by_.life) := hs.cell (p := ⟨w.heap.size + 2, 1, none⟩) trivial t1
      have m2 : wc.cell? ⟨w.heap.size + 2, 2, none⟩ = some (.int .i64 by_.seq) := hs.cell (p := ⟨w.heap.size + 2, 2, none⟩) trivial t2
      have m3 : wc.cell? ⟨w.heap.size + 2, 3, none⟩ = some (.int .i64 by_.attempt) := hs.cell (p := ⟨w.heap.size + 2, 3, none⟩) trivial t3
      clear hd hz hf hw
      simp only [Oper.wp, execOp, resolve, List.map_toArray, List.map_cons, List.map_nil, Option.map_some, Option.map_none, e0]
      go_simp
      exact hK _ _ rfl (Same.refl _ _)
    · intro ac wc hs hd hz hf hw K hK
      have eg : ac.eval (.tmp 126) = .bool false := hw 40 rfl
      refine run_wanted (j := 40) (d := 126) (b := false) rfl rfl hz (of_decide_eq_true rfl) eg ?_
      clear eg
      have e0 : ac.eval (.tmp 130) = (.slice A cs.length cp) := hw 44 rfl
      have e1 : ac.eval (.tmp 131) = (tryV by_) := hw 45 rfl
      clear hd hz hf hw
      simp only [Oper.wp, execOp, resolve, List.map_toArray, List.map_cons, List.map_nil, Option.map_some, Option.map_none, e0, e1]
      go_simp
      refine (cm2 wc (Hv13.out.keepAll hs)).mono ?_
      rintro e wd ⟨rfl, hs2⟩
      exact hK _ _ rfl hs2
    · intro ac wc hs hd hz hf hw K hK
      have eg : ac.eval (.tmp 126) = .bool false := hw 40 rfl
      refine run_wanted (j := 40) (d := 126) (b := false) rfl rfl hz (of_decide_eq_true rfl) eg ?_
      clear eg
      have e0 : ac.eval (.tmp 129) = (.bool mi) := hw 43 rfl
      have e1 : ac.eval (.tmp 132) = (.bool mi) := hw 46 rfl
      clear hd hz hf hw
      simp only [Oper.wp, execOp, resolve, List.map_toArray, List.map_cons, List.map_nil, Option.map_some, Option.map_none, e0, e1]
      go_simp
      exact hK _ _ rfl (Same.refl _ _)
    · intro ac wc hs hd hz hf hw K hK
      have e0 : ac.eval (.tmp 126) = (.bool false) := hw 40 rfl
      have e1 : ac.eval (.tmp 133) = (.bool false) := hw 47 rfl
      clear hd hz hf hw
      simp only [Region.wanted, if_true, Oper.wp, execOp, resolve, List.map_toArray, List.map_cons, List.map_nil, Option.map_some, Option.map_none, e0, e1]
      go_simp
      exact hK _ _ rfl (Same.refl _ _)
    · intro ac wc hs hd hz hf hw K hK
      have e0 : ac.eval (.tmp 134) = (.bool false) := hw 48 rfl
      clear hd hz hf hw
      simp only [Region.wanted, if_true, Oper.wp, execOp, resolve, List.map_toArray, List.map_cons, List.map_nil, Option.map_some, Option.map_none, e0]
      go_simp
      exact hK _ _ rfl (Same.refl _ _)
    · intro ac wc hs hd hz hf hw K hK
      have eg : ac.eval (.tmp 135) = .bool false := hw 49 rfl
      refine run_wanted (j := 49) (d := 135) (b := false) rfl rfl hz (of_decide_eq_true rfl) eg ?_
      clear eg
      have e0 : ac.eval (.tmp 0) = (.slice A cs.length cp) := hf 0 rfl
      clear hd hz hf hw
      simp only [Oper.wp, execOp, resolve, List.map_toArray, List.map_cons, List.map_nil, Option.map_some, Option.map_none, e0]
      go_simp
      exact hK _ _ rfl (Same.refl _ _)
    · intro ac wc hs hd hz hf hw K hK
      have eg : ac.eval (.tmp 135) = .bool false := hw 49 rfl
      refine run_wanted (j := 49) (d := 135) (b := false) rfl rfl hz (of_decide_eq_true rfl) eg ?_
      clear eg
      have e0 : ac.eval (.tmp 136) = (.slice A cs.length cp) := hw 50 rfl
      clear hd hz hf hw
      simp only [Oper.wp, execOp, resolve, List.map_toArray, List.map_cons, List.map_nil, Option.map_some, Option.map_none, e0]
      go_simp
      refine (mvmay_good (Hv13.out.keepAll hs) Hg.out hn Hn2.out).mono ?_
      rintro e wd ⟨rfl, hs2⟩
      exact hK _ _ rfl hs2
    · intro ac wc hs hd hz hf hw K hK
      have eg : ac.eval (.tmp 135) = .bool false := hw 49 rfl
      refine run_wanted (j := 49) (d := 135) (b := false) rfl rfl hz (of_decide_eq_true rfl) eg ?_
      clear eg
      have e0 : ac.eval (.tmp 0) = (.slice A cs.length cp) := hf 0 rfl
      clear hd hz hf hw
      simp only [Oper.wp, execOp, resolve, List.map_toArray, List.map_cons, List.map_nil, Option.map_some, Option.map_none, e0]
      go_simp
      exact hK _ _ rfl (Same.refl _ _)
    · intro ac wc hs hd hz hf hw K hK
      have eg : ac.eval (.tmp 135) = .bool false := hw 49 rfl
      refine run_wanted (j := 49) (d := 135) (b := false) rfl rfl hz (of_decide_eq_true rfl) eg ?_
      clear eg
      have e0 : ac.eval (.tmp 138) = (.slice A cs.length cp) := hw 52 rfl
      clear hd hz hf hw
      simp only [Oper.wp, execOp, resolve, List.map_toArray, List.map_cons, List.map_nil, Option.map_some, Option.map_none, e0]
      go_simp
      refine (refmay_good (Hv13.out.keepAll hs) Hg.out hn Hn2.out).mono ?_
      rintro e wd ⟨rfl, hs2⟩
      exact hK _ _ rfl hs2
    · intro ac wc hs hd hz hf hw K hK
      have eg : ac.eval (.tmp 135) = .bool false := hw 49 rfl
      refine run_wanted (j := 49) (d := 135) (b := false) rfl rfl hz (of_decide_eq_true rfl) eg ?_
      clear eg
      have e0 : ac.eval (.tmp 137) = (.bool true) := hw 51 rfl
      have e1 : ac.eval (.tmp 139) = (.bool true) := hw 53 rfl
      clear hd hz hf hw
      simp only [Oper.wp, execOp, resolve, List.map_toArray, List.map_cons, List.map_nil, Option.map_some, Option.map_none, e0, e1]
      go_simp
      exact hK _ _ rfl (Same.refl _ _)
    · intro ac wc hs hd hz hf hw K hK
      have e0 : ac.eval (.tmp 135) = (.bool false) := hw 49 rfl
      have e1 : ac.eval (.tmp 140) = (.bool false) := hw 54 rfl
      clear hd hz hf hw
      simp only [Region.wanted, if_true, Oper.wp, execOp, resolve, List.map_toArray, List.map_cons, List.map_nil, Option.map_some, Option.map_none, e0, e1]
      go_simp
      exact hK _ _ rfl (Same.refl _ _)
  · intro wR hsR
    simp only [putAll, Act.put, List.setIfInBounds_toArray, List.set_cons_succ, List.set_cons_zero]
    have HSR := Lib.hid (HS13.out.trans hsR)
    have HxR := Lib.hid (Hx13.out.keepAll hsR)
    have HyR := Lib.hid (Hy13.out.keepAll hsR)
    clear l0 l1 l2 l3 l4 l5 l6 l7 l8 m0 m1 m2 m3 m4 m5 m6 m7 m8 h0 h1 h2 h3 h4 h5 h6 h7 h8 n0 n1 n2 n3 n4 n5 n6 n7 n8 t0 t1 t2 t3 hsR
    obtain ⟨gx0, hgx0, hwx0⟩ := WipeX.start Hx8.out
    obtain ⟨gx, hgx, hwx⟩ := WipeX.start HxR.out
    have hgx2 : w.heap.size ≤ gx ∧ gx < w8.heap.size ∨ L.length = 0 := by
      rcases Nat.eq_zero_or_pos L.length with h | h
      · exact .inr h
      · obtain ⟨_, e1, _⟩ := hwx h
        obtain ⟨_, e2, _⟩ := hwx0 h
        rw [e1] at e2
        injection e2 with e2
        injection e2 with e2 _
        have := (HS1.out.trans HS7.out).size
        rcases hgx0 with h0 | h0
        · exact .inl (by omega)
        · exact .inr h0
    have Hwx := Lib.hid hwx
    clear hgx0 hwx0 hwx hgx cg1 cg2 cl1 cl2 cx1 cx2 ch1 ch2 cm1 cm2
    go_wp2
    go_loopw [29] (fun i wi => ∃ k : Nat, i = .int .i64 k ∧ k ≤ L.length ∧ WipeX L Ax gx k wi ∧ Same (fun q => q ≠ gx ∨ L.length = 0) wR wi) (fun i _ => L.length - (intOf i).toNat)
    case atStart => exact ⟨0, rfl, Nat.zero_le _, Hwx.out, Same.refl _ _⟩
    case round =>
      obtain ⟨k, rfl, hk, hwk, hSk⟩ := hrel
      obtain ⟨wo, rfl⟩ : ∃ wo : World, wo = wr := ⟨_, rfl⟩
      have HSk := Lib.hid hSk
      have hyk := OwnR.keep HyR.out hSk (fun q hq _ => by omega)
      clear hSk
      by_cases hlt : k < L.length
      · obtain ⟨rfl, p0, p1, f0, f1, z5⟩ := hwk.cells hlt
        obtain ⟨ay, rfl, hyb, q0, q1⟩ := OwnP.cells hyk hlt
        have Hwk := Lib.hid hwk
        have x1 : (0 : Int) ≤ (k : Int) := by omega
        have x2 : (k : Int) < (L.length : Int) := by omega
        clear hyk hwk
        generalize L[k] = pr at *
        go_wp2
        go_quiet (fail)
        rename_i nq
        have Hwq := Lib.hid (Hwk.out.keep ((Same.refl (fun _ => True) wo).drewN nq) trivial)
        have HSq := Lib.hid (HSk.out.drewN nq)
        have hq := (Same.refl (fun _ => True) wo).drewN nq
        have p0 := hq.cell (p := ⟨gx, k * 2, none⟩) trivial p0
        have p1 := hq.cell (p := ⟨gx, k * 2 + 1, none⟩) trivial p1
        have g0 : (wo.drewN nq).frozen? ⟨gx, k * 2, none⟩ = false := (Hwq.out.cells hlt).2.2.2.1
        have g1 : (wo.drewN nq).frozen? ⟨gx, k * 2 + 1, none⟩ = false := (Hwq.out.cells hlt).2.2.2.2.1
        clear hq
        go_wp2
        go_roundw
        case rel =>
          refine ⟨k + 1, by go_num, by omega, Hwq.out.next, ?_⟩
          repeat (refine Same.setCell ?_ (fun _ h => h.elim (fun h => h rfl) (fun h => by omega)) _)
          exact HSq.out
        case measure => simp [intOf]; omega
      · obtain rfl : k = L.length := by omega
        have Hend := Lib.hid ((HS1.out.trans HSR.out).trans' HSk.out fun q hq _ => by omega)
        clear hyk hwk
        go_wp2
        go_ret
        exact ⟨rfl, Hend.out⟩
end Go.Proofs.Ytoldelocfmpccaa
