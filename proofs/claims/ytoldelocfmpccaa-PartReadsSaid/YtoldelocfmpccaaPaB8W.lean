/-
  PartReads: for all commands, what a Read told at a stamp is told at that stamp ever after: the walk.
-/
import Derived.Test.YtoldelocfmpccaaS9
import Derived.Test.YtoldelocfmpccaaS8
import Derived.Test.YtoldelocfmpccaaS7
import Derived.Test.YtoldelocfmpccaaS6
import Derived.Test.YtoldelocfmpccaaS5
import Derived.Test.YtoldelocfmpccaaS4
import Derived.Test.YtoldelocfmpccaaS3
import Derived.Test.YtoldelocfmpccaaS2
import Derived.Test.YtoldelocfmpccaaS14
import Derived.Test.YtoldelocfmpccaaS13
import Derived.Test.YtoldelocfmpccaaS12
import Derived.Test.YtoldelocfmpccaaS11
import Derived.Test.YtoldelocfmpccaaS10
import Derived.Test.YtoldelocfmpccaaS1
import Derived.Test.YtoldelocfmpccaaT1
set_option linter.unusedSimpArgs false
set_option linter.unusedVariables false
namespace Go.Proofs.Ytoldelocfmpccaa
open Go.RowKit
theorem pair_ne2 (x : List UInt8 × List UInt8) (w : World) : (binOp .neq 60 (.agg #[.string (str x.1), .string (str x.2)]) (.agg #[.string (str x.1), .string (str x.2)])).run Try.prog w = .ok (.bool false) w := by
  go_simp
theorem st_run (a b : St) (w : World) : (binOp .eql 28 (stV a) (stV b)).run Try.prog w = .ok (.bool (a == b)) w := by
  have e : (a == b) = (a.wall == b.wall && a.tie == b.tie) := by
    rw [Bool.eq_iff_iff]; cases a; cases b; simp
  rw [e]
  go_simp
  cases h1 : a.wall == b.wall <;> cases h2 : a.tie == b.tie <;> simp_all
theorem scanAll_len {cs : List Cel} {a : St} : ∀ {l acc : List (List UInt8 × List UInt8)}, acc.length ≤ 512 → (scanAll cs a l acc).1.length ≤ 512
  | [], acc, h => h
  | s :: l, acc, h => by
    unfold scanAll
    split
    · rename_i h1
      have := scan_fits h1
      exact scanAll_len (by rw [List.length_append]; omega)
    · simp
theorem read_len {p : PartM} {c : CmdM} (hk : c.kind = 2) : (applyF p c).2.pairs.length ≤ 512 := by
  by_cases hp : p.epoch = 0 ∨ c.epoch ≠ p.epoch
  · rw [apply_elder (by omega) hp]
    simp [repErr, ReplyM.zero]
  · have e := apply_does (p := p) (c := c) (by omega) (fun e => hp (.inl e)) (by by_cases h1 : c.epoch = p.epoch; exact h1; exact absurd (.inr h1) hp)
    rw [does2 hk] at e
    have key : (readF p c).2.pairs.length ≤ 512 := by
      unfold readF
      split
      · simp [ReplyM.zero]
      · split
        · simp [lockedR, ReplyM.zero]
        · split
          · exact scanAll_len (by simp)
          · simp [repErr, ReplyM.zero]
    rw [e]
    split <;> exact key
theorem told_take {cs : List Cel} {a : St} {l : List (List UInt8 × List UInt8)} {k : Nat} (h : k < l.length) : toldAll cs a (l.take (k + 1)) = toldAll cs a (l.take k) ++ pairsF a (withinF cs l[k].1 l[k].2) := by
  unfold toldAll
  rw [List.take_succ_eq_append_getElem h, List.flatMap_append]
  simp
theorem told_le (cs : List Cel) (a : St) (l : List (List UInt8 × List UInt8)) (k : Nat) : (toldAll cs a (l.take k)).length ≤ (toldAll cs a l).length := by
  have : toldAll cs a l = toldAll cs a (l.take k) ++ toldAll cs a (l.drop k) := by
    unfold toldAll
    rw [← List.flatMap_append, List.take_append_drop]
  rw [this, List.length_append]
  omega
set_option maxRecDepth 100000 in
set_option maxHeartbeats 8000000 in
theorem reads_walk (v : Value) (l : List CmdM) (rd : Int) (w : World) (hv : CmdR w (fun k => k < w.heap.size) v l) (hrd : -9223372036854775808 ≤ rd ∧ rd ≤ 9223372036854775807) :
    Calls Try.prog 13 #[v, .int .i64 rd] w fun e w' => e = .returned (.bool true) ∧ Same (fun _ => True) w w' := by
  obtain ⟨A, cl, rfl, hlc, hlm⟩ := hv.form
  have Hv := Lib.hid hv
  unfold maxLen at hlm
  clear hv
  have HS := Lib.hid (Same.refl (fun _ => True) w)
  go_enter Try.func13, Try.ntmps13
  go_wp2_with (go_at_call 38; refine stopAt ?_)
  unfold Hid
  refine (begunp_any _).mono ?_
  rintro e w1 ⟨rfl, hS1⟩
  have HS := Lib.hid (HS.out.trans hS1)
  clear hS1
  go_wp2_with (go_at_call 39; refine stopAt ?_)
  unfold Hid
  refine (lightk_any (.slice A l.length cl) l 50 _ w1 (Hv.out.keepAll HS.out) (by omega)).mono ?_
  rintro e w2 ⟨bl, rfl, hbl, hS1⟩
  have HS := Lib.hid (HS.out.trans hS1)
  clear hS1
  cases bl
  · clear hbl
    go_wp2
    go_ret
    exact ⟨rfl, HS.out⟩
  obtain ⟨hlen, hlw⟩ := hbl rfl
  clear hbl
  have Hlw := Lib.hid hlw
  clear hlw
  by_cases h0 : l.length = 0
  · obtain rfl := List.eq_nil_of_length_eq_zero h0
    go_wp2
    go_ret
    exact ⟨rfl, HS.out⟩
  have k0 : ((l.length : Int) == 0) = false := by rw [beq_eq_false_iff_ne]; omega
  have k1 : (l.length == 0) = false := by rw [beq_eq_false_iff_ne]; exact h0
  have k2 : ¬ l = [] := fun e => h0 (by rw [e]; rfl)
  have hl0 : 0 < l.length := by omega
  clear h0
  go_wp2_with (go_at_call 51; refine stopAt ?_)
  unfold Hid
  refine (run_any (.slice A l.length cl) l _ w2 (Hv.out.keepAll HS.out) (by omega) Hlw.out).mono ?_
  rintro e w3 ⟨va, rfl, hps, hS1⟩
  obtain ⟨Ap, cap, rfl, hp1, hp2⟩ := hps.form
  rw [states_len] at hps hp1 ⊢
  have HPS := Lib.hid hps
  have hS1s := hS1.size
  have HS := Lib.hid (HS.out.trans hS1)
  clear hS1 hps
  unfold maxLen at hp2
  have q1 := Int.lt_tmod_of_pos rd (b := (l.length : Int)) (by omega)
  have q2 := Int.tmod_lt_of_pos rd (b := (l.length : Int)) (by omega)
  obtain ⟨BW, hBW⟩ : ∃ BW, BW = w.heap.size := ⟨_, rfl⟩
  have HBW := Lib.hid hBW
  clear hBW hS1s
  go_wp2
  obtain ⟨j, hj⟩ : ∃ j : Nat, (rd.tmod (l.length : Int) + (l.length : Int)) % (l.length : Int) = (j : Int) := ⟨_, (Int.toNat_of_nonneg (Int.emod_nonneg _ (by omega))).symm⟩
  have hjl : j < l.length := by
    have := Int.emod_lt_of_pos (rd.tmod (l.length : Int) + (l.length : Int)) (b := (l.length : Int)) (by omega)
    rw [hj] at this
    omega
  rw [hj]
  clear hj q1 q2 k0 k1 k2
  obtain ⟨ad, vs, vw, rfl, -, hsp, hwr, hcl, c0, hcs⟩ := CmdR.at_ Hv.out hjl
  have hsp0 := hsp
  obtain ⟨ap, vc, vr, vd, rfl, hown, p0, hps0⟩ := PartsO.at_ HPS.out (i := j) (by rw [states_len]; omega)
  have hcw := Hlw.out l[j] (List.getElem_mem hjl)
  have Hfin := Lib.hid (fine_run Hlw.out j (by omega))
  have hfe := run_epoch (l := l) j (by omega)
  rw [states_at] at hown p0 hps0
  obtain ⟨c, hc⟩ : ∃ c, l[j] = c := ⟨_, rfl⟩
  rw [hc] at hsp hwr hcl c0 hcs hcw hsp0
  have hsp := RowR.keepAll hsp HS.out
  have hwr := RowR.keepAll hwr HS.out
  have Hc := Lib.hid hc
  generalize runP (l.take j) = p at *
  obtain ⟨As, cs_, rfl, hs1, hs2⟩ := SpanR.form hsp
  obtain ⟨Aw, cw_, rfl, hw1, hw2⟩ := WrR.form hwr
  obtain ⟨P0, p0_, rfl, hq1, hq2⟩ := hown.cells.form
  obtain ⟨P1, p1_, rfl, hq3, hq4⟩ := OwnR.form hown.recs
  obtain ⟨P2, p2_, rfl, hq5, hq6⟩ := OwnR.form hown.done
  unfold maxLen at hs2 hw2 hq2 hq4 hq6
  have HO := Lib.hid hown.reads.all
  have hsp0 := hsp0.mono (S' := fun _ => True) (by omega) fun _ _ _ => trivial
  have Hsp := Lib.hid (hsp.mono (S' := fun _ => True) (by omega) fun _ _ _ => trivial)
  have Hwr := Lib.hid (hwr.mono (S' := fun _ => True) (by omega) fun _ _ _ => trivial)
  have x1 : (0 : Int) ≤ (j : Int) := by omega
  have x2 : (j : Int) < (l.length : Int) := by omega
  have x3 : j < l.length := hjl
  have x4 : (j : Int) < (l.length : Int) + 1 := by omega
  have x5 : j ≤ l.length := by omega
  have x6 : (j : Int) ≤ (l.length : Int) := by omega
  have x7 : j < l.length + 1 := by omega
  have x8 : (j : Int) < ((l.length + 1 : Nat) : Int) := by omega
  have hep : -9223372036854775808 ≤ p.epoch ∧ p.epoch < 9223372036854775807 := by omega
  have p1 := hps0 1 (by omega) (by omega)
  have p2 := hps0 2 (by omega) (by omega)
  have p3 := hps0 3 (by omega) (by omega)
  have p4 := hps0 4 (by omega) (by omega)
  have p5 := hps0 5 (by omega) (by omega)
  have p6 := hps0 6 (by omega) (by omega)
  have p7 := hps0 7 (by omega) (by omega)
  have p8 := hps0 8 (by omega) (by omega)
  have c1 := hcs 1 (by omega) (by omega)
  have c2 := hcs 2 (by omega) (by omega)
  have c3 := hcs 3 (by omega) (by omega)
  have c4 := hcs 4 (by omega) (by omega)
  have c5 := hcs 5 (by omega) (by omega)
  have c6 := hcs 6 (by omega) (by omega)
  have c7 := hcs 7 (by omega) (by omega)
  have c8 := hcs 8 (by omega) (by omega)
  have c9 := hcs 9 (by omega) (by omega)
  have c10 := hcs 10 (by omega) (by omega)
  have c11 := hcs 11 (by omega) (by omega)
  have c12 := hcs 12 (by omega) (by omega)
  have c13 := hcs 13 (by omega) (by omega)
  simp only [partCs, cmdCs, List.getElem?_cons_zero, List.getElem?_cons_succ] at p1 p2 p3 p4 p5 p6 p7 p8 c1 c2 c3 c4 c5 c6 c7 c8 c9 c10 c11 c12 c13
  have c0 := HS.out.cell (p := (ad.add (j * 14))) trivial c0
  have c1 := HS.out.cell (p := ⟨(ad.add (j * 14)).block, (ad.add (j * 14)).off + 1, none⟩) trivial c1
  have c2 := HS.out.cell (p := ⟨(ad.add (j * 14)).block, (ad.add (j * 14)).off + 2, none⟩) trivial c2
  have c3 := HS.out.cell (p := ⟨(ad.add (j * 14)).block, (ad.add (j * 14)).off + 3, none⟩) trivial c3
  have c4 := HS.out.cell (p := ⟨(ad.add (j * 14)).block, (ad.add (j * 14)).off + 4, none⟩) trivial c4
  have c5 := HS.out.cell (p := ⟨(ad.add (j * 14)).block, (ad.add (j * 14)).off + 5, none⟩) trivial c5
  have c6 := HS.out.cell (p := ⟨(ad.add (j * 14)).block, (ad.add (j * 14)).off + 6, none⟩) trivial c6
  have c7 := HS.out.cell (p := ⟨(ad.add (j * 14)).block, (ad.add (j * 14)).off + 7, none⟩) trivial c7
  have c8 := HS.out.cell (p := ⟨(ad.add (j * 14)).block, (ad.add (j * 14)).off + 8, none⟩) trivial c8
  have c9 := HS.out.cell (p := ⟨(ad.add (j * 14)).block, (ad.add (j * 14)).off + 9, none⟩) trivial c9
  have c10 := HS.out.cell (p := ⟨(ad.add (j * 14)).block, (ad.add (j * 14)).off + 10, none⟩) trivial c10
  have c11 := HS.out.cell (p := ⟨(ad.add (j * 14)).block, (ad.add (j * 14)).off + 11, none⟩) trivial c11
  have c12 := HS.out.cell (p := ⟨(ad.add (j * 14)).block, (ad.add (j * 14)).off + 12, none⟩) trivial c12
  have c13 := HS.out.cell (p := ⟨(ad.add (j * 14)).block, (ad.add (j * 14)).off + 13, none⟩) trivial c13
  clear hsp hwr hcl hcs hown hps0 hc
  have HPS3 := HPS
  have HO3 := HO
  have Hsp3 := Hsp
  have Hwr3 := Hwr
  have Hsp0 := Lib.hid hsp0
  clear hsp0
  go_cut [6] from 39 to 47 (fun v6 wx => ∃ g6, v6 = .pointer (some ⟨g6, 0, none⟩) ∧ w3.heap.size ≤ g6 ∧ Row wx g6 81 (cmdCs (.slice As c.spans.length cs_) (.slice Aw c.writes.length cw_) (ownF p c false)) ∧ Same (fun _ => True) w3 wx)
  case first =>
    refine wp_region_tail_lit (L := [.eq (.slice (some ap) (l.length + 1) cap), .eq (.int .i64 j), .eq (.pointer (some (ap.add (j * 9)))), .eq (partV (.slice P0 p.cells.length p0_) (.slice P1 p.recs.length p1_) (.slice P2 p.done.length p2_) p), .eq (.slice (some ad) l.length cl), .eq (.int .i64 j), .eq (.pointer (some (ad.add (j * 14)))), .eq (cmdV (.slice As c.spans.length cs_) (.slice Aw c.writes.length cw_) c), .eq (cmdV (.slice As c.spans.length cs_) (.slice Aw c.writes.length cw_) (ownF p c false)), .of ⟨fun v w => ∃ g, v = .pointer (some ⟨g, 0, none⟩) ∧ w3.heap.size ≤ g ∧ Row w g 81 (cmdCs nilV nilV CmdM.zero), fun _ _ _ ⟨g, h1, h2, h3⟩ k => ⟨g, h1, h2, h3.keep k trivial⟩⟩]) 10 (by kernel_rfl) (by kernel_rfl) rfl rfl rfl ?_ ?_
    · refine ⟨?_, ?_, ?_, ?_, ?_, ?_, ?_, ?_, ?_, ?_, trivial⟩
      · intro ac wc hs hd hz hf hw K hK
        have e0 : ac.eval (.tmp 5) = (.slice (some ap) (l.length + 1) cap) := hf 5 rfl
        clear hd hz hf hw
        simp only [Region.wanted, if_true, Oper.wp, execOp, resolve, List.map_toArray, List.map_cons, List.map_nil, Option.map_some, Option.map_none, e0]
        go_simp
        exact hK _ _ rfl (Same.refl _ _)
      · intro ac wc hs hd hz hf hw K hK
        have e0 : ac.eval (.tmp 1) = (.int .i64 j) := hf 1 rfl
        clear hd hz hf hw
        simp only [Region.wanted, if_true, Oper.wp, execOp, resolve, List.map_toArray, List.map_cons, List.map_nil, Option.map_some, Option.map_none, e0]
        go_simp
        exact hK _ _ rfl (Same.refl _ _)
      · intro ac wc hs hd hz hf hw K hK
        have e0 : ac.eval (.tmp 39) = (.slice (some ap) (l.length + 1) cap) := hw 0 rfl
        have e1 : ac.eval (.tmp 40) = (.int .i64 j) := hw 1 rfl
        clear hd hz hf hw
        simp only [Region.wanted, if_true, Oper.wp, execOp, resolve, List.map_toArray, List.map_cons, List.map_nil, Option.map_some, Option.map_none, e0, e1]
        go_simp
        exact hK _ _ rfl (Same.refl _ _)
      · intro ac wc hs hd hz hf hw K hK
        have e0 : ac.eval (.tmp 41) = (.pointer (some (ap.add (j * 9)))) := hw 2 rfl
        have m0 : wc.cell? (ap.add (j * 9)) = some (.int .i64 p.epoch) := hs.cell (p := (ap.add (j * 9))) trivial p0
        have m1 : wc.cell? ⟨(ap.add (j * 9)).block, (ap.add (j * 9)).off + 1, none⟩ = some (.int .i64 p.holder) := hs.cell (p := ⟨(ap.add (j * 9)).block, (ap.add (j * 9)).off + 1, none⟩) trivial p1
        have m2 : wc.cell? ⟨(ap.add (j * 9)).block, (ap.add (j * 9)).off + 2, none⟩ = some (.int .i64 p.floor.wall) := hs.cell (p := ⟨(ap.add (j * 9)).block, (ap.add (j * 9)).off + 2, none⟩) trivial p2
        have m3 : wc.cell? ⟨(ap.add (j * 9)).block, (ap.add (j * 9)).off + 3, none⟩ = some (.int .i64 p.floor.tie) := hs.cell (p := ⟨(ap.add (j * 9)).block, (ap.add (j * 9)).off + 3, none⟩) trivial p3
        have m4 : wc.cell? ⟨(ap.add (j * 9)).block, (ap.add (j * 9)).off + 4, none⟩ = some (.int .i64 p.closed) := hs.cell (p := ⟨(ap.add (j * 9)).block, (ap.add (j * 9)).off + 4, none⟩) trivial p4
        have m5 : wc.cell? ⟨(ap.add (j * 9)).block, (ap.add (j * 9)).off + 5, none⟩ = some (.int .i64 p.low) := hs.cell (p := ⟨(ap.add (j * 9)).block, (ap.add (j * 9)).off + 5, none⟩) trivial p5
        have m6 : wc.cell? ⟨(ap.add (j * 9)).block, (ap.add (j * 9)).off + 6, none⟩ = some (.slice P0 p.cells.length p0_) := hs.cell (p := ⟨(ap.add (j * 9)).block, (ap.add (j * 9)).off + 6, none⟩) trivial p6
        have m7 : wc.cell? ⟨(ap.add (j * 9)).block, (ap.add (j * 9)).off + 7, none⟩ = some (.slice P1 p.recs.length p1_) := hs.cell (p := ⟨(ap.add (j * 9)).block, (ap.add (j * 9)).off + 7, none⟩) trivial p7
        have m8 : wc.cell? ⟨(ap.add (j * 9)).block, (ap.add (j * 9)).off + 8, none⟩ = some (.slice P2 p.done.length p2_) := hs.cell (p := ⟨(ap.add (j * 9)).block, (ap.add (j * 9)).off + 8, none⟩) trivial p8
        clear hd hz hf hw
        simp only [Region.wanted, if_true, Oper.wp, execOp, resolve, List.map_toArray, List.map_cons, List.map_nil, Option.map_some, Option.map_none, e0]
        go_simp
        exact hK _ _ rfl (Same.refl _ _)
      · intro ac wc hs hd hz hf hw K hK
        have e0 : ac.eval (.tmp 0) = (.slice (some ad) l.length cl) := hf 0 rfl
        clear hd hz hf hw
        simp only [Region.wanted, if_true, Oper.wp, execOp, resolve, List.map_toArray, List.map_cons, List.map_nil, Option.map_some, Option.map_none, e0]
        go_simp
        exact hK _ _ rfl (Same.refl _ _)
      · intro ac wc hs hd hz hf hw K hK
        have e0 : ac.eval (.tmp 1) = (.int .i64 j) := hf 1 rfl
        clear hd hz hf hw
        simp only [Region.wanted, if_true, Oper.wp, execOp, resolve, List.map_toArray, List.map_cons, List.map_nil, Option.map_some, Option.map_none, e0]
        go_simp
        exact hK _ _ rfl (Same.refl _ _)
      · intro ac wc hs hd hz hf hw K hK
        have e0 : ac.eval (.tmp 43) = (.slice (some ad) l.length cl) := hw 4 rfl
        have e1 : ac.eval (.tmp 44) = (.int .i64 j) := hw 5 rfl
        clear hd hz hf hw
        simp only [Region.wanted, if_true, Oper.wp, execOp, resolve, List.map_toArray, List.map_cons, List.map_nil, Option.map_some, Option.map_none, e0, e1]
        go_simp
        exact hK _ _ rfl (Same.refl _ _)
      · intro ac wc hs hd hz hf hw K hK
        have e0 : ac.eval (.tmp 45) = (.pointer (some (ad.add (j * 14)))) := hw 6 rfl
        have m0 : wc.cell? (ad.add (j * 14)) = some (.int .i64 c.kind) := hs.cell (p := (ad.add (j * 14))) trivial c0
        have m1 : wc.cell? ⟨(ad.add (j * 14)).block, (ad.add (j * 14)).off + 1, none⟩ = some (.int .i64 c.epoch) := hs.cell (p := ⟨(ad.add (j * 14)).block, (ad.add (j * 14)).off + 1, none⟩) trivial c1
        have m2 : wc.cell? ⟨(ad.add (j * 14)).block, (ad.add (j * 14)).off + 2, none⟩ = some (.int .i64 c.node) := hs.cell (p := ⟨(ad.add (j * 14)).block, (ad.add (j * 14)).off + 2, none⟩) trivial c2
        have m3 : wc.cell? ⟨(ad.add (j * 14)).block, (ad.add (j * 14)).off + 3, none⟩ = some (.int .i64 c.home) := hs.cell (p := ⟨(ad.add (j * 14)).block, (ad.add (j * 14)).off + 3, none⟩) trivial c3
        have m4 : wc.cell? ⟨(ad.add (j * 14)).block, (ad.add (j * 14)).off + 4, none⟩ = some (.int .i64 c.by_.node) := hs.cell (p := ⟨(ad.add (j * 14)).block, (ad.add (j * 14)).off + 4, none⟩) trivial c4
        have m5 : wc.cell? ⟨(ad.add (j * 14)).block, (ad.add (j * 14)).off + 5, none⟩ = some (.int .i64 c.by_.life) := hs.cell (p := ⟨(ad.add (j * 14)).block, (ad.add (j * 14)).off + 5, none⟩) trivial c5
        have m6 : wc.cell? ⟨(ad.add (j * 14)).block, (ad.add (j * 14)).off + 6, none⟩ = some (.int .i64 c.by_.seq) := hs.cell (p := ⟨(ad.add (j * 14)).block, (ad.add (j * 14)).off + 6, none⟩) trivial c6
        have m7 : wc.cell? ⟨(ad.add (j * 14)).block, (ad.add (j * 14)).off + 7, none⟩ = some (.int .i64 c.by_.attempt) := hs.cell (p := ⟨(ad.add (j * 14)).block, (ad.add (j * 14)).off + 7, none⟩) trivial c7
        have m8 : wc.cell? ⟨(ad.add (j * 14)).block, (ad.add (j * 14)).off + 8, none⟩ = some (.int .i64 c.at_.wall) := hs.cell (p := ⟨(ad.add (j * 14)).block, (ad.add (j * 14)).off + 8, none⟩) trivial c8
        have m9 : wc.cell? ⟨(ad.add (j * 14)).block, (ad.add (j * 14)).off + 9, none⟩ = some (.int .i64 c.at_.tie) := hs.cell (p := ⟨(ad.add (j * 14)).block, (ad.add (j * 14)).off + 9, none⟩) trivial c9
        have m10 : wc.cell? ⟨(ad.add (j * 14)).block, (ad.add (j * 14)).off + 10, none⟩ = some (.int .i64 c.wall) := hs.cell (p := ⟨(ad.add (j * 14)).block, (ad.add (j * 14)).off + 10, none⟩) trivial c10
        have m11 : wc.cell? ⟨(ad.add (j * 14)).block, (ad.add (j * 14)).off + 11, none⟩ = some (.bool c.yes) := hs.cell (p := ⟨(ad.add (j * 14)).block, (ad.add (j * 14)).off + 11, none⟩) trivial c11
        have m12 : wc.cell? ⟨(ad.add (j * 14)).block, (ad.add (j * 14)).off + 12, none⟩ = some (.slice As c.spans.length cs_) := hs.cell (p := ⟨(ad.add (j * 14)).block, (ad.add (j * 14)).off + 12, none⟩) trivial c12
        have m13 : wc.cell? ⟨(ad.add (j * 14)).block, (ad.add (j * 14)).off + 13, none⟩ = some (.slice Aw c.writes.length cw_) := hs.cell (p := ⟨(ad.add (j * 14)).block, (ad.add (j * 14)).off + 13, none⟩) trivial c13
        clear hd hz hf hw
        simp only [Region.wanted, if_true, Oper.wp, execOp, resolve, List.map_toArray, List.map_cons, List.map_nil, Option.map_some, Option.map_none, e0]
        go_simp
        exact hK _ _ rfl (Same.refl _ _)
      · intro ac wc hs hd hz hf hw K hK
        have e0 : ac.eval (.tmp 42) = (partV (.slice P0 p.cells.length p0_) (.slice P1 p.recs.length p1_) (.slice P2 p.done.length p2_) p) := hw 3 rfl
        have e1 : ac.eval (.tmp 46) = (cmdV (.slice As c.spans.length cs_) (.slice Aw c.writes.length cw_) c) := hw 7 rfl
        clear hd hz hf hw
        simp only [Region.wanted, if_true, Oper.wp, execOp, resolve, List.map_toArray, List.map_cons, List.map_nil, Option.map_some, Option.map_none, e0, e1]
        go_simp
        refine (ownp_any _ _ _ _ _ p c false wc ⟨_, _, _, rfl⟩ ⟨_, _, _, rfl⟩ ⟨_, _, _, rfl⟩ ⟨_, _, _, rfl⟩ ⟨_, _, _, rfl⟩ hep).mono ?_
        rintro e wd ⟨rfl, hs2⟩
        exact hK _ _ rfl hs2
      · intro ac wc hs hd hz hf hw K hK
        clear hd hz hf hw
        simp only [Region.wanted, if_true, Oper.wp, execOp, resolve, List.map_toArray, List.map_cons, List.map_nil, Option.map_some, Option.map_none]
        go_simp
        exact hK _ _ ⟨_, rfl, hs.size, Row.new _ _ (cmdCs nilV nilV CmdM.zero)⟩ ((Same.refl _ _).alloc _)
    · intro vs wR hvl hvp hsR
      rcases vs with _ | ⟨z0, _ | ⟨z1, _ | ⟨z2, _ | ⟨z3, _ | ⟨z4, _ | ⟨z5, _ | ⟨z6, _ | ⟨z7, _ | ⟨z8, _ | ⟨z9, _ | ⟨zz, zr⟩⟩⟩⟩⟩⟩⟩⟩⟩⟩⟩
      rotate_right 1
      · simp at hvl
      · simp at hvl
      · simp at hvl
      · simp at hvl
      · simp at hvl
      · simp at hvl
      · simp at hvl
      · simp at hvl
      · simp at hvl
      · simp at hvl
      · simp at hvl
      · obtain rfl : z0 = (.slice (some ap) (l.length + 1) cap) := hvp 0 (by omega)
        obtain rfl : z1 = (.int .i64 j) := hvp 1 (by omega)
        obtain rfl : z2 = (.pointer (some (ap.add (j * 9)))) := hvp 2 (by omega)
        obtain rfl : z3 = (partV (.slice P0 p.cells.length p0_) (.slice P1 p.recs.length p1_) (.slice P2 p.done.length p2_) p) := hvp 3 (by omega)
        obtain rfl : z4 = (.slice (some ad) l.length cl) := hvp 4 (by omega)
        obtain rfl : z5 = (.int .i64 j) := hvp 5 (by omega)
        obtain rfl : z6 = (.pointer (some (ad.add (j * 14)))) := hvp 6 (by omega)
        obtain rfl : z7 = (cmdV (.slice As c.spans.length cs_) (.slice Aw c.writes.length cw_) c) := hvp 7 (by omega)
        obtain rfl : z8 = (cmdV (.slice As c.spans.length cs_) (.slice Aw c.writes.length cw_) (ownF p c false)) := hvp 8 (by omega)
        have hx6 : (⟨fun v w => ∃ g, v = .pointer (some ⟨g, 0, none⟩) ∧ w3.heap.size ≤ g ∧ Row w g 81 (cmdCs nilV nilV CmdM.zero), fun _ _ _ ⟨g, h1, h2, h3⟩ k => ⟨g, h1, h2, h3.keep k trivial⟩⟩ : SP).p z9 wR := hvp 9 (by omega)
        clear hvl hvp
        simp only [putAll, Act.put, List.setIfInBounds_toArray, List.set_cons_succ, List.set_cons_zero, List.take_succ_cons, List.take_zero, List.drop_succ_cons, List.drop_zero, List.eraseIdx_cons_succ, List.eraseIdx_cons_zero]
        obtain ⟨g9, rfl, hg9, r9⟩ := hx6
        have z9 := r9.lt
        have R9 := Lib.hid r9
        have l0 := r9.cell 0
        have l1 := r9.cell 1
        have l2 := r9.cell 2
        have l3 := r9.cell 3
        have l4 := r9.cell 4
        have l5 := r9.cell 5
        have l6 := r9.cell 6
        have l7 := r9.cell 7
        have l8 := r9.cell 8
        have l9 := r9.cell 9
        have l10 := r9.cell 10
        have l11 := r9.cell 11
        have l12 := r9.cell 12
        have l13 := r9.cell 13
        simp only [cmdCs, CmdM.zero, List.getElem?_cons_zero, List.getElem?_cons_succ] at l0 l1 l2 l3 l4 l5 l6 l7 l8 l9 l10 l11 l12 l13
        have h0 := r9.frozen 0
        have h1 := r9.frozen 1
        have h2 := r9.frozen 2
        have h3 := r9.frozen 3
        have h4 := r9.frozen 4
        have h5 := r9.frozen 5
        have h6 := r9.frozen 6
        have h7 := r9.frozen 7
        have h8 := r9.frozen 8
        have h9 := r9.frozen 9
        have h10 := r9.frozen 10
        have h11 := r9.frozen 11
        have h12 := r9.frozen 12
        have h13 := r9.frozen 13
        clear r9
        go_wp2
        go_meet
        exact ⟨g9, rfl, hg9, R9.out.sets (cmdCs (.slice As c.spans.length cs_) (.slice Aw c.writes.length cw_) (ownF p c false)) 0, Same.sets' hg9 (cmdCs (.slice As c.spans.length cs_) (.slice Aw c.writes.length cw_) (ownF p c false)) 0 hsR⟩
  case rest =>
    obtain ⟨g6, rfl, hg6, r6, hS1⟩ := hcut
    have HPP := Lib.hid (And.intro p0 (And.intro p1 (And.intro p2 (And.intro p3 (And.intro p4 (And.intro p5 (And.intro p6 (And.intro p7 p8))))))))
    clear p0 p1 p2 p3 p4 p5 p6 p7 p8 c0 c1 c2 c3 c4 c5 c6 c7 c8 c9 c10 c11 c12 c13
    have S3 := Lib.hid hS1
    have hgw : w.heap.size ≤ g6 := by have := HS.out.size; omega
    have HC := Lib.hid r6
    have HPS := Lib.hid (HPS.out.keepAll hS1)
    have HO := Lib.hid (HO.out.keepAll hS1)
    have Hsp := Lib.hid (RowR.keepAll Hsp.out hS1)
    have Hwr := Lib.hid (RowR.keepAll Hwr.out hS1)
    have HS := Lib.hid (HS.out.trans hS1)
    have Hg6 := Lib.hid (show w3.heap.size ≤ g6 ∧ w.heap.size ≤ g6 from ⟨hg6, hgw⟩)
    clear r6 hS1 hg6 hgw
    have r_ := HC.out
    have c0 := r_.cell 0
    have c1 := r_.cell 1
    have c2 := r_.cell 2
    have c3 := r_.cell 3
    have c4 := r_.cell 4
    have c5 := r_.cell 5
    have c6 := r_.cell 6
    have c7 := r_.cell 7
    have c8 := r_.cell 8
    have c9 := r_.cell 9
    have c10 := r_.cell 10
    have c11 := r_.cell 11
    have c12 := r_.cell 12
    have c13 := r_.cell 13
    simp only [partCs, cmdCs, repCs, tryCs, stCs, wrCs, lckCs, celCs, pairCs, List.getElem?_cons_zero, List.getElem?_cons_succ] at c0 c1 c2 c3 c4 c5 c6 c7 c8 c9 c10 c11 c12 c13
    clear r_
    have r_ := HC.out
    have f0 := r_.frozen 0
    have z_ := r_.lt
    clear r_
    go_upto_region 9 with (fail)
    have hp5 := HC.out.set_ 0 (.int .i64 2)
    have hS5 := S3.out.setCell (p := ⟨g6, 0, none⟩) (fun hp => by have hp : g6 < w3.heap.size := hp; have := Hg6.out.1; omega) (.int .i64 2)
    have hS6 := HS.out.setCell (p := ⟨g6, 0, none⟩) (fun hp => by have hp : g6 < w.heap.size := hp; have := Hg6.out.2; omega) (.int .i64 2)
    clear f0 z_ c0 c1 c2 c3 c4 c5 c6 c7 c8 c9 c10 c11 c12 c13
    have HO := Lib.hid (HO.out.keepAll (Same.refl _ wc))
    revert hp5 hS5 hS6
    generalize wc.setCell _ _ = wk
    intro hp5 hS5 hS6
    have HC := Lib.hid (show Row wk g6 81 (cmdCs (.slice As c.spans.length cs_) (.slice Aw c.writes.length cw_) ({ c with kind := 2, epoch := (ownF p c false).epoch })) from hp5)
    have S3 := Lib.hid hS5
    have HS := Lib.hid hS6
    clear hp5 hS5 hS6 HPS HO Hsp Hwr
    have HPS := Lib.hid (HPS3.out.keepAll S3.out)
    have HO := Lib.hid (HO3.out.keepAll S3.out)
    have Hsp := Lib.hid (RowR.keepAll Hsp3.out S3.out)
    have Hwr := Lib.hid (RowR.keepAll Hwr3.out S3.out)
    obtain ⟨p0, p1, p2, p3, p4, p5, p6, p7, p8⟩ := HPP.out
    have p0 := S3.out.cell (p := (ap.add (j * 9))) trivial p0
    have p1 := S3.out.cell (p := ⟨(ap.add (j * 9)).block, (ap.add (j * 9)).off + 1, none⟩) trivial p1
    have p2 := S3.out.cell (p := ⟨(ap.add (j * 9)).block, (ap.add (j * 9)).off + 2, none⟩) trivial p2
    have p3 := S3.out.cell (p := ⟨(ap.add (j * 9)).block, (ap.add (j * 9)).off + 3, none⟩) trivial p3
    have p4 := S3.out.cell (p := ⟨(ap.add (j * 9)).block, (ap.add (j * 9)).off + 4, none⟩) trivial p4
    have p5 := S3.out.cell (p := ⟨(ap.add (j * 9)).block, (ap.add (j * 9)).off + 5, none⟩) trivial p5
    have p6 := S3.out.cell (p := ⟨(ap.add (j * 9)).block, (ap.add (j * 9)).off + 6, none⟩) trivial p6
    have p7 := S3.out.cell (p := ⟨(ap.add (j * 9)).block, (ap.add (j * 9)).off + 7, none⟩) trivial p7
    have p8 := S3.out.cell (p := ⟨(ap.add (j * 9)).block, (ap.add (j * 9)).off + 8, none⟩) trivial p8
    have r_ := HC.out
    have c0 := r_.cell 0
    have c1 := r_.cell 1
    have c2 := r_.cell 2
    have c3 := r_.cell 3
    have c4 := r_.cell 4
    have c5 := r_.cell 5
    have c6 := r_.cell 6
    have c7 := r_.cell 7
    have c8 := r_.cell 8
    have c9 := r_.cell 9
    have c10 := r_.cell 10
    have c11 := r_.cell 11
    have c12 := r_.cell 12
    have c13 := r_.cell 13
    simp only [partCs, cmdCs, repCs, tryCs, stCs, wrCs, lckCs, celCs, pairCs, List.getElem?_cons_zero, List.getElem?_cons_succ] at c0 c1 c2 c3 c4 c5 c6 c7 c8 c9 c10 c11 c12 c13
    clear r_
    have hbw : BW ≤ wk.heap.size := by rw [HBW.out]; exact HS.out.size
    obtain ⟨QQ, EQ, hQE⟩ : ∃ Q E, applyF p ({ c with kind := 2, epoch := (ownF p c false).epoch }) = (Q, E) := ⟨_, _, rfl⟩
    have ga := fun W (hW : Same (fun _ => True) wk W) => apply_any (100 * j) (fun _ => True) (.slice P0 p.cells.length p0_) (.slice P1 p.recs.length p1_) (.slice P2 p.done.length p2_) (.slice As c.spans.length cs_) (.slice Aw c.writes.length cw_) p ({ c with kind := 2, epoch := (ownF p c false).epoch }) W (HO.out.keepAll hW) (Hfin.out.toN (by omega)) Hfin.out.cells (by show 100 * j + c.writes.length ≤ 100000; omega) (by omega) (RowR.keepAll Hsp.out hW) (RowR.keepAll Hwr.out hW)
    simp only [hQE] at ga
    have HQQ := Lib.hid hQE
    clear hQE
    go_cut [7, 8] from 49 to 57 (fun v7 v8 wx => ∃ g7 g8 vc vr vd vp, v7 = .pointer (some ⟨g7, 0, none⟩) ∧ v8 = .pointer (some ⟨g8, 0, none⟩) ∧ wk.heap.size ≤ g7 ∧ wk.heap.size ≤ g8 ∧ Row wx g7 77 (partCs vc vr vd QQ) ∧ OwnPart wx BW vc vr vd QQ ∧ Row wx g8 85 (repCs vp EQ) ∧ OwnP wx BW vp EQ.pairs ∧ Same (fun _ => True) wk wx)
    case first =>
      refine wp_region_tail_d (L := [.eq (.slice (some ap) (l.length + 1) cap), .eq (.int .i64 j), .eq (.pointer (some (ap.add (j * 9)))), .eq (partV (.slice P0 p.cells.length p0_) (.slice P1 p.recs.length p1_) (.slice P2 p.done.length p2_) p), .eq (cmdV (.slice As c.spans.length cs_) (.slice Aw c.writes.length cw_) ({ c with kind := 2, epoch := (ownF p c false).epoch })), .of ⟨fun v w => ∃ vc vr vd vp, v = .tuple #[partV vc vr vd QQ, repV vp EQ] ∧ OwnPart w BW vc vr vd QQ ∧ OwnP w BW vp EQ.pairs, fun _ _ _ ⟨vc, vr, vd, vp, h1, h2, h3⟩ k => ⟨vc, vr, vd, vp, h1, h2.keepAll k, h3.keepAll k⟩⟩, .of ⟨fun v w => ∃ vc vr vd vp, v = .tuple #[partV vc vr vd QQ, repV vp EQ] ∧ OwnPart w BW vc vr vd QQ ∧ OwnP w BW vp EQ.pairs, fun _ _ _ ⟨vc, vr, vd, vp, h1, h2, h3⟩ k => ⟨vc, vr, vd, vp, h1, h2.keepAll k, h3.keepAll k⟩⟩, .of ⟨fun v w => ∃ vc vr vd, v = partV vc vr vd QQ ∧ OwnPart w BW vc vr vd QQ, fun _ _ _ ⟨vc, vr, vd, h1, h2⟩ k => ⟨vc, vr, vd, h1, h2.keepAll k⟩⟩, .of ⟨fun v w => ∃ vp, v = repV vp EQ ∧ OwnP w BW vp EQ.pairs, fun _ _ _ ⟨vp, h1, h2⟩ k => ⟨vp, h1, h2.keepAll k⟩⟩, .of ⟨fun v w => ∃ g, v = .pointer (some ⟨g, 0, none⟩) ∧ wk.heap.size ≤ g ∧ Row w g 77 zeroPart, fun _ _ _ ⟨g, h1, h2, h3⟩ k => ⟨g, h1, h2, h3.keep k trivial⟩⟩, .of ⟨fun v w => ∃ g, v = .pointer (some ⟨g, 0, none⟩) ∧ wk.heap.size ≤ g ∧ Row w g 85 (repCs nilV ReplyM.zero), fun _ _ _ ⟨g, h1, h2, h3⟩ k => ⟨g, h1, h2, h3.keep k trivial⟩⟩]) 11 8 (by omega) (by kernel_rfl) (by kernel_rfl) rfl rfl rfl rfl rfl rfl ?_ ?_ ?_
      · refine ⟨?_, ?_, ?_, ?_, ?_, ?_, ?_, ?_, ?_, ?_, ?_, trivial⟩
        · intro ac wc hs hd hz hf hw K hK
          have e0 : ac.eval (.tmp 5) = (.slice (some ap) (l.length + 1) cap) := hf 5 rfl
          clear hd hz hf hw
          simp only [Region.wanted, if_true, Oper.wp, execOp, resolve, List.map_toArray, List.map_cons, List.map_nil, Option.map_some, Option.map_none, e0]
          go_simp
          exact hK _ _ rfl (Same.refl _ _)
        · intro ac wc hs hd hz hf hw K hK
          have e0 : ac.eval (.tmp 1) = (.int .i64 j) := hf 1 rfl
          clear hd hz hf hw
          simp only [Region.wanted, if_true, Oper.wp, execOp, resolve, List.map_toArray, List.map_cons, List.map_nil, Option.map_some, Option.map_none, e0]
          go_simp
          exact hK _ _ rfl (Same.refl _ _)
        · intro ac wc hs hd hz hf hw K hK
          have e0 : ac.eval (.tmp 50) = (.slice (some ap) (l.length + 1) cap) := hw 0 rfl
          have e1 : ac.eval (.tmp 51) = (.int .i64 j) := hw 1 rfl
          clear hd hz hf hw
          simp only [Region.wanted, if_true, Oper.wp, execOp, resolve, List.map_toArray, List.map_cons, List.map_nil, Option.map_some, Option.map_none, e0, e1]
          go_simp
          exact hK _ _ rfl (Same.refl _ _)
        · intro ac wc hs hd hz hf hw K hK
          have e0 : ac.eval (.tmp 52) = (.pointer (some (ap.add (j * 9)))) := hw 2 rfl
          have m0 : wc.cell? (ap.add (j * 9)) = some (.int .i64 p.epoch) := hs.cell (p := (ap.add (j * 9))) trivial p0
          have m1 : wc.cell? ⟨(ap.add (j * 9)).block, (ap.add (j * 9)).off + 1, none⟩ = some (.int .i64 p.holder) := hs.cell (p := ⟨(ap.add (j * 9)).block, (ap.add (j * 9)).off + 1, none⟩) trivial p1
          have m2 : wc.cell? ⟨(ap.add (j * 9)).block, (ap.add (j * 9)).off + 2, none⟩ = some (.int .i64 p.floor.wall) := hs.cell (p := ⟨(ap.add (j * 9)).block, (ap.add (j * 9)).off + 2, none⟩) trivial p2
          have m3 : wc.cell? ⟨(ap.add (j * 9)).block, (ap.add (j * 9)).off + 3, none⟩ = some (.int .i64 p.floor.tie) := hs.cell (p := ⟨(ap.add (j * 9)).block, (ap.add (j * 9)).off + 3, none⟩) trivial p3
          have m4 : wc.cell? ⟨(ap.add (j * 9)).block, (ap.add (j * 9)).off + 4, none⟩ = some (.int .i64 p.closed) := hs.cell (p := ⟨(ap.add (j * 9)).block, (ap.add (j * 9)).off + 4, none⟩) trivial p4
          have m5 : wc.cell? ⟨(ap.add (j * 9)).block, (ap.add (j * 9)).off + 5, none⟩ = some (.int .i64 p.low) := hs.cell (p := ⟨(ap.add (j * 9)).block, (ap.add (j * 9)).off + 5, none⟩) trivial p5
          have m6 : wc.cell? ⟨(ap.add (j * 9)).block, (ap.add (j * 9)).off + 6, none⟩ = some (.slice P0 p.cells.length p0_) := hs.cell (p := ⟨(ap.add (j * 9)).block, (ap.add (j * 9)).off + 6, none⟩) trivial p6
          have m7 : wc.cell? ⟨(ap.add (j * 9)).block, (ap.add (j * 9)).off + 7, none⟩ = some (.slice P1 p.recs.length p1_) := hs.cell (p := ⟨(ap.add (j * 9)).block, (ap.add (j * 9)).off + 7, none⟩) trivial p7
          have m8 : wc.cell? ⟨(ap.add (j * 9)).block, (ap.add (j * 9)).off + 8, none⟩ = some (.slice P2 p.done.length p2_) := hs.cell (p := ⟨(ap.add (j * 9)).block, (ap.add (j * 9)).off + 8, none⟩) trivial p8
          clear hd hz hf hw
          simp only [Region.wanted, if_true, Oper.wp, execOp, resolve, List.map_toArray, List.map_cons, List.map_nil, Option.map_some, Option.map_none, e0]
          go_simp
          exact hK _ _ rfl (Same.refl _ _)
        · intro ac wc hs hd hz hf hw K hK
          have e0 : ac.eval (.tmp 6) = (.pointer (some ⟨g6, 0, none⟩)) := hf 6 rfl
          have m0 : wc.cell? ⟨g6, 0, none⟩ = some (.int .i64 ({ c with kind := 2, epoch := (ownF p c false).epoch }).kind) := hs.cell (p := ⟨g6, 0, none⟩) trivial c0
          have m1 : wc.cell? ⟨g6, 1, none⟩ = some (.int .i64 ({ c with kind := 2, epoch := (ownF p c false).epoch }).epoch) := hs.cell (p := ⟨g6, 1, none⟩) trivial c1
          have m2 : wc.cell? ⟨g6, 2, none⟩ = some (.int .i64 ({ c with kind := 2, epoch := (ownF p c false).epoch }).node) := hs.cell (p := ⟨g6, 2, none⟩) trivial c2
          have m3 : wc.cell? ⟨g6, 3, none⟩ = some (.int .i64 ({ c with kind := 2, epoch := (ownF p c false).epoch }).home) := hs.cell (p := ⟨g6, 3, none⟩) trivial c3
          have m4 : wc.cell? ⟨g6, 4, none⟩ = some (.int .i64 ({ c with kind := 2, epoch := (ownF p c false).epoch }).by_.node) := hs.cell (p := ⟨g6, 4, none⟩) trivial c4
          have m5 : wc.cell? ⟨g6, 5, none⟩ = some (.int .i64 ({ c with kind := 2, epoch := (ownF p c false).epoch }).by_.life) := hs.cell (p := ⟨g6, 5, none⟩) trivial c5
          have m6 : wc.cell? ⟨g6, 6, none⟩ = some (.int .i64 ({ c with kind := 2, epoch := (ownF p c false).epoch }).by_.seq) := hs.cell (p := ⟨g6, 6, none⟩) trivial c6
          have m7 : wc.cell? ⟨g6, 7, none⟩ = some (.int .i64 ({ c with kind := 2, epoch := (ownF p c false).epoch }).by_.attempt) := hs.cell (p := ⟨g6, 7, none⟩) trivial c7
          have m8 : wc.cell? ⟨g6, 8, none⟩ = some (.int .i64 ({ c with kind := 2, epoch := (ownF p c false).epoch }).at_.wall) := hs.cell (p := ⟨g6, 8, none⟩) trivial c8
          have m9 : wc.cell? ⟨g6, 9, none⟩ = some (.int .i64 ({ c with kind := 2, epoch := (ownF p c false).epoch }).at_.tie) := hs.cell (p := ⟨g6, 9, none⟩) trivial c9
          have m10 : wc.cell? ⟨g6, 10, none⟩ = some (.int .i64 ({ c with kind := 2, epoch := (ownF p c false).epoch }).wall) := hs.cell (p := ⟨g6, 10, none⟩) trivial c10
          have m11 : wc.cell? ⟨g6, 11, none⟩ = some (.bool ({ c with kind := 2, epoch := (ownF p c false).epoch }).yes) := hs.cell (p := ⟨g6, 11, none⟩) trivial c11
          have m12 : wc.cell? ⟨g6, 12, none⟩ = some (.slice As c.spans.length cs_) := hs.cell (p := ⟨g6, 12, none⟩) trivial c12
          have m13 : wc.cell? ⟨g6, 13, none⟩ = some (.slice Aw c.writes.length cw_) := hs.cell (p := ⟨g6, 13, none⟩) trivial c13
          clear hd hz hf hw
          simp only [Region.wanted, if_true, Oper.wp, execOp, resolve, List.map_toArray, List.map_cons, List.map_nil, Option.map_some, Option.map_none, e0]
          go_simp
          exact hK _ _ rfl (Same.refl _ _)
        · intro ac wc hs hd hz hf hw K hK
          have e0 : ac.eval (.tmp 53) = (partV (.slice P0 p.cells.length p0_) (.slice P1 p.recs.length p1_) (.slice P2 p.done.length p2_) p) := hw 3 rfl
          have e1 : ac.eval (.tmp 54) = (cmdV (.slice As c.spans.length cs_) (.slice Aw c.writes.length cw_) ({ c with kind := 2, epoch := (ownF p c false).epoch })) := hw 4 rfl
          clear hd hz hf hw
          simp only [Region.wanted, if_true, Oper.wp, execOp, resolve, List.map_toArray, List.map_cons, List.map_nil, Option.map_some, Option.map_none, e0, e1]
          go_simp
          refine (ga wc hs).mono ?_
          rintro e wd ⟨vc9, vr9, vd9, vp9, rfl, ho9, hp9, hs9⟩
          exact hK _ _ ⟨vc9, vr9, vd9, vp9, rfl, ho9.lower (by have := hs.size; omega), hp9.lower (by have := hs.size; omega)⟩ hs9
        · intro ac wc hs hd hz hf hw K hK
          have p0 : (⟨fun v w => ∃ vc vr vd vp, v = .tuple #[partV vc vr vd QQ, repV vp EQ] ∧ OwnPart w BW vc vr vd QQ ∧ OwnP w BW vp EQ.pairs, fun _ _ _ ⟨vc, vr, vd, vp, h1, h2, h3⟩ k => ⟨vc, vr, vd, vp, h1, h2.keepAll k, h3.keepAll k⟩⟩ : SP).p (ac.eval (.tmp 55)) wc := hw 5 rfl
          obtain ⟨u0, e0⟩ : ∃ u, ac.eval (.tmp 55) = u := ⟨_, rfl⟩
          rw [e0] at p0
          clear hd hz hf hw
          simp only [Region.wanted, if_true, Oper.wp, execOp, resolve, List.map_toArray, List.map_cons, List.map_nil, Option.map_some, Option.map_none, e0]
          go_simp
          exact hK _ _ p0 (Same.refl _ _)
        · intro ac wc hs hd hz hf hw K hK
          have p0 : (⟨fun v w => ∃ vc vr vd vp, v = .tuple #[partV vc vr vd QQ, repV vp EQ] ∧ OwnPart w BW vc vr vd QQ ∧ OwnP w BW vp EQ.pairs, fun _ _ _ ⟨vc, vr, vd, vp, h1, h2, h3⟩ k => ⟨vc, vr, vd, vp, h1, h2.keepAll k, h3.keepAll k⟩⟩ : SP).p (ac.eval (.tmp 49)) wc := hw 6 rfl
          obtain ⟨u0, e0⟩ : ∃ u, ac.eval (.tmp 49) = u := ⟨_, rfl⟩
          rw [e0] at p0
          clear hd hz hf hw
          simp only [Region.wanted, if_true, Oper.wp, execOp, resolve, List.map_toArray, List.map_cons, List.map_nil, Option.map_some, Option.map_none, e0]
          go_simp
          obtain ⟨vc9, vr9, vd9, vp9, e, h1, h2⟩ := p0
          subst e
          go_simp
          exact hK _ _ ⟨vc9, vr9, vd9, rfl, h1⟩ (Same.refl _ _)
        · intro ac wc hs hd hz hf hw K hK
          have p0 : (⟨fun v w => ∃ vc vr vd vp, v = .tuple #[partV vc vr vd QQ, repV vp EQ] ∧ OwnPart w BW vc vr vd QQ ∧ OwnP w BW vp EQ.pairs, fun _ _ _ ⟨vc, vr, vd, vp, h1, h2, h3⟩ k => ⟨vc, vr, vd, vp, h1, h2.keepAll k, h3.keepAll k⟩⟩ : SP).p (ac.eval (.tmp 49)) wc := hw 6 rfl
          obtain ⟨u0, e0⟩ : ∃ u, ac.eval (.tmp 49) = u := ⟨_, rfl⟩
          rw [e0] at p0
          clear hd hz hf hw
          simp only [Region.wanted, if_true, Oper.wp, execOp, resolve, List.map_toArray, List.map_cons, List.map_nil, Option.map_some, Option.map_none, e0]
          go_simp
          obtain ⟨vc9, vr9, vd9, vp9, e, h1, h2⟩ := p0
          subst e
          go_simp
          exact hK _ _ ⟨vp9, rfl, h2⟩ (Same.refl _ _)
        · intro ac wc hs hd hz hf hw K hK
          clear hd hz hf hw
          simp only [Region.wanted, if_true, Oper.wp, execOp, resolve, List.map_toArray, List.map_cons, List.map_nil, Option.map_some, Option.map_none]
          go_simp
          exact hK _ _ ⟨_, rfl, hs.size, Row.new _ _ zeroPart⟩ ((Same.refl _ _).alloc _)
        · intro ac wc hs hd hz hf hw K hK
          clear hd hz hf hw
          simp only [Region.wanted, if_true, Oper.wp, execOp, resolve, List.map_toArray, List.map_cons, List.map_nil, Option.map_some, Option.map_none]
          go_simp
          exact hK _ _ ⟨_, rfl, hs.size, Row.new _ _ (repCs nilV ReplyM.zero)⟩ ((Same.refl _ _).alloc _)
      · intro vs wR hvl hvp hsR
        rcases vs with _ | ⟨z0, _ | ⟨z1, _ | ⟨z2, _ | ⟨z3, _ | ⟨z4, _ | ⟨z5, _ | ⟨z6, _ | ⟨z7, _ | ⟨z8, _ | ⟨z9, _ | ⟨z10, _ | ⟨zz, zr⟩⟩⟩⟩⟩⟩⟩⟩⟩⟩⟩⟩
        rotate_right 1
        · simp at hvl
        · simp at hvl
        · simp at hvl
        · simp at hvl
        · simp at hvl
        · simp at hvl
        · simp at hvl
        · simp at hvl
        · simp at hvl
        · simp at hvl
        · simp at hvl
        · simp at hvl
        · obtain rfl : z0 = (.slice (some ap) (l.length + 1) cap) := hvp 0 (by omega)
          obtain rfl : z1 = (.int .i64 j) := hvp 1 (by omega)
          obtain rfl : z2 = (.pointer (some (ap.add (j * 9)))) := hvp 2 (by omega)
          obtain rfl : z3 = (partV (.slice P0 p.cells.length p0_) (.slice P1 p.recs.length p1_) (.slice P2 p.done.length p2_) p) := hvp 3 (by omega)
          obtain rfl : z4 = (cmdV (.slice As c.spans.length cs_) (.slice Aw c.writes.length cw_) ({ c with kind := 2, epoch := (ownF p c false).epoch })) := hvp 4 (by omega)
          have hx55 : (⟨fun v w => ∃ vc vr vd vp, v = .tuple #[partV vc vr vd QQ, repV vp EQ] ∧ OwnPart w BW vc vr vd QQ ∧ OwnP w BW vp EQ.pairs, fun _ _ _ ⟨vc, vr, vd, vp, h1, h2, h3⟩ k => ⟨vc, vr, vd, vp, h1, h2.keepAll k, h3.keepAll k⟩⟩ : SP).p z5 wR := hvp 5 (by omega)
          have hx49 : (⟨fun v w => ∃ vc vr vd vp, v = .tuple #[partV vc vr vd QQ, repV vp EQ] ∧ OwnPart w BW vc vr vd QQ ∧ OwnP w BW vp EQ.pairs, fun _ _ _ ⟨vc, vr, vd, vp, h1, h2, h3⟩ k => ⟨vc, vr, vd, vp, h1, h2.keepAll k, h3.keepAll k⟩⟩ : SP).p z6 wR := hvp 6 (by omega)
          have hx56 : (⟨fun v w => ∃ vc vr vd, v = partV vc vr vd QQ ∧ OwnPart w BW vc vr vd QQ, fun _ _ _ ⟨vc, vr, vd, h1, h2⟩ k => ⟨vc, vr, vd, h1, h2.keepAll k⟩⟩ : SP).p z7 wR := hvp 7 (by omega)
          have hx57 : (⟨fun v w => ∃ vp, v = repV vp EQ ∧ OwnP w BW vp EQ.pairs, fun _ _ _ ⟨vp, h1, h2⟩ k => ⟨vp, h1, h2.keepAll k⟩⟩ : SP).p z8 wR := hvp 8 (by omega)
          have hx7 : (⟨fun v w => ∃ g, v = .pointer (some ⟨g, 0, none⟩) ∧ wk.heap.size ≤ g ∧ Row w g 77 zeroPart, fun _ _ _ ⟨g, h1, h2, h3⟩ k => ⟨g, h1, h2, h3.keep k trivial⟩⟩ : SP).p z9 wR := hvp 9 (by omega)
          have hx8 : (⟨fun v w => ∃ g, v = .pointer (some ⟨g, 0, none⟩) ∧ wk.heap.size ≤ g ∧ Row w g 85 (repCs nilV ReplyM.zero), fun _ _ _ ⟨g, h1, h2, h3⟩ k => ⟨g, h1, h2, h3.keep k trivial⟩⟩ : SP).p z10 wR := hvp 10 (by omega)
          clear hvl hvp
          simp only [putAll, Act.put, List.setIfInBounds_toArray, List.set_cons_succ, List.set_cons_zero, List.take_succ_cons, List.take_zero, List.drop_succ_cons, List.drop_zero, List.eraseIdx_cons_succ, List.eraseIdx_cons_zero]
          obtain ⟨vp9, rfl, hp9⟩ := hx57
          obtain ⟨vc9, vr9, vd9, rfl, ho9⟩ := hx56
          obtain ⟨vc8, vr8, vd8, vp8, rfl, ho8, hp8⟩ := hx49
          obtain ⟨g7, rfl, hg7, r7⟩ := hx7
          obtain ⟨g8, rfl, hg8, r8⟩ := hx8
          obtain ⟨A9, c9, rfl, -, -⟩ := ho9.cells.form
          obtain ⟨B9, d9, rfl, -, -⟩ := OwnR.form ho9.recs
          obtain ⟨C9, e9, rfl, -, -⟩ := OwnR.form ho9.done
          obtain ⟨D9, f9, rfl, -, -⟩ := OwnP.form hp9
          have Hne := Lib.hid (show g7 ≠ g8 from r7.ne r8 (by decide))
          have hne1 := Hne.out
          have hne2 := Ne.symm Hne.out
          have Ho9 := Lib.hid ho9
          have Hp9 := Lib.hid hp9
          have R7 := Lib.hid r7
          have R8 := Lib.hid r8
          have HSR := Lib.hid hsR
          have z7 := r7.lt
          have z8 := r8.lt
          have x0 := r7.cell 0
          have x1 := r7.cell 1
          have x2 := r7.cell 2
          have x3 := r7.cell 3
          have x4 := r7.cell 4
          have x5 := r7.cell 5
          have x6 := r7.cell 6
          have x7 := r7.cell 7
          have x8 := r7.cell 8
          simp only [zeroPart, List.getElem?_cons_zero, List.getElem?_cons_succ] at x0 x1 x2 x3 x4 x5 x6 x7 x8
          have y0 := r7.frozen 0
          have y1 := r7.frozen 1
          have y2 := r7.frozen 2
          have y3 := r7.frozen 3
          have y4 := r7.frozen 4
          have y5 := r7.frozen 5
          have y6 := r7.frozen 6
          have y7 := r7.frozen 7
          have y8 := r7.frozen 8
          have t0 := r8.cell 0
          have t1 := r8.cell 1
          have t2 := r8.cell 2
          have t3 := r8.cell 3
          have t4 := r8.cell 4
          have t5 := r8.cell 5
          have t6 := r8.cell 6
          have t7 := r8.cell 7
          have t8 := r8.cell 8
          have t9 := r8.cell 9
          have t10 := r8.cell 10
          simp only [repCs, ReplyM.zero, List.getElem?_cons_zero, List.getElem?_cons_succ] at t0 t1 t2 t3 t4 t5 t6 t7 t8 t9 t10
          have u0 := r8.frozen 0
          have u1 := r8.frozen 1
          have u2 := r8.frozen 2
          have u3 := r8.frozen 3
          have u4 := r8.frozen 4
          have u5 := r8.frozen 5
          have u6 := r8.frozen 6
          have u7 := r8.frozen 7
          have u8 := r8.frozen 8
          have u9 := r8.frozen 9
          have u10 := r8.frozen 10
          clear ho9 hp9 ho8 hp8 r7 r8 hsR
          go_wp2
          go_meet
          have q6 := R7.out.sets (partCs (.slice A9 QQ.cells.length c9) (.slice B9 QQ.recs.length d9) (.slice C9 QQ.done.length e9) QQ) 0
          have s6 := Same.sets (S := fun q => q ≠ g7) (g := g7) (fun h => h rfl) (partCs (.slice A9 QQ.cells.length c9) (.slice B9 QQ.recs.length d9) (.slice C9 QQ.done.length e9) QQ) 0 (Same.refl _ wR)
          have q7_ := R8.out.keep s6 (Ne.symm Hne.out)
          have s7 := Same.sets (S := fun q => q ≠ g8) (g := g8) (fun h => h rfl) (repCs (.slice D9 EQ.pairs.length f9) EQ) 0 (Same.refl _ (setsW wR g7 0 (partCs (.slice A9 QQ.cells.length c9) (.slice B9 QQ.recs.length d9) (.slice C9 QQ.done.length e9) QQ)))
          have q7 := q7_.sets (repCs (.slice D9 EQ.pairs.length f9) EQ) 0
          exact ⟨g7, g8, _, _, _, _, rfl, rfl, hg7, hg8, q6.keep s7 Hne.out, (Ho9.out.keepG R7.out s6).keepRep q7_ s7, q7, OwnR.keepG (OwnR.keepG Hp9.out R7.out (by decide) s6) q7_ (by decide) s7, Same.sets' hg8 (repCs (.slice D9 EQ.pairs.length f9) EQ) 0 (Same.sets' hg7 (partCs (.slice A9 QQ.cells.length c9) (.slice B9 QQ.recs.length d9) (.slice C9 QQ.done.length e9) QQ) 0 HSR.out)⟩
      · intro vs wR hvl hvp hsR
        rcases vs with _ | ⟨z0, _ | ⟨z1, _ | ⟨z2, _ | ⟨z3, _ | ⟨z4, _ | ⟨z5, _ | ⟨z6, _ | ⟨z7, _ | ⟨z9, _ | ⟨z10, _ | ⟨zz, zr⟩⟩⟩⟩⟩⟩⟩⟩⟩⟩⟩
        rotate_right 1
        · simp at hvl
        · simp at hvl
        · simp at hvl
        · simp at hvl
        · simp at hvl
        · simp at hvl
        · simp at hvl
        · simp at hvl
        · simp at hvl
        · simp at hvl
        · simp at hvl
        · obtain rfl : z0 = (.slice (some ap) (l.length + 1) cap) := hvp 0 (by omega)
          obtain rfl : z1 = (.int .i64 j) := hvp 1 (by omega)
          obtain rfl : z2 = (.pointer (some (ap.add (j * 9)))) := hvp 2 (by omega)
          obtain rfl : z3 = (partV (.slice P0 p.cells.length p0_) (.slice P1 p.recs.length p1_) (.slice P2 p.done.length p2_) p) := hvp 3 (by omega)
          obtain rfl : z4 = (cmdV (.slice As c.spans.length cs_) (.slice Aw c.writes.length cw_) ({ c with kind := 2, epoch := (ownF p c false).epoch })) := hvp 4 (by omega)
          have hx55 : (⟨fun v w => ∃ vc vr vd vp, v = .tuple #[partV vc vr vd QQ, repV vp EQ] ∧ OwnPart w BW vc vr vd QQ ∧ OwnP w BW vp EQ.pairs, fun _ _ _ ⟨vc, vr, vd, vp, h1, h2, h3⟩ k => ⟨vc, vr, vd, vp, h1, h2.keepAll k, h3.keepAll k⟩⟩ : SP).p z5 wR := hvp 5 (by omega)
          have hx49 : (⟨fun v w => ∃ vc vr vd vp, v = .tuple #[partV vc vr vd QQ, repV vp EQ] ∧ OwnPart w BW vc vr vd QQ ∧ OwnP w BW vp EQ.pairs, fun _ _ _ ⟨vc, vr, vd, vp, h1, h2, h3⟩ k => ⟨vc, vr, vd, vp, h1, h2.keepAll k, h3.keepAll k⟩⟩ : SP).p z6 wR := hvp 6 (by omega)
          have hx56 : (⟨fun v w => ∃ vc vr vd, v = partV vc vr vd QQ ∧ OwnPart w BW vc vr vd QQ, fun _ _ _ ⟨vc, vr, vd, h1, h2⟩ k => ⟨vc, vr, vd, h1, h2.keepAll k⟩⟩ : SP).p z7 wR := hvp 7 (by omega)
          have hx7 : (⟨fun v w => ∃ g, v = .pointer (some ⟨g, 0, none⟩) ∧ wk.heap.size ≤ g ∧ Row w g 77 zeroPart, fun _ _ _ ⟨g, h1, h2, h3⟩ k => ⟨g, h1, h2, h3.keep k trivial⟩⟩ : SP).p z9 wR := hvp 8 (by omega)
          have hx8 : (⟨fun v w => ∃ g, v = .pointer (some ⟨g, 0, none⟩) ∧ wk.heap.size ≤ g ∧ Row w g 85 (repCs nilV ReplyM.zero), fun _ _ _ ⟨g, h1, h2, h3⟩ k => ⟨g, h1, h2, h3.keep k trivial⟩⟩ : SP).p z10 wR := hvp 9 (by omega)
          clear hvl hvp
          simp only [putAll, Act.put, List.setIfInBounds_toArray, List.set_cons_succ, List.set_cons_zero, List.take_succ_cons, List.take_zero, List.drop_succ_cons, List.drop_zero, List.eraseIdx_cons_succ, List.eraseIdx_cons_zero]
          obtain ⟨vc9, vr9, vd9, rfl, ho9⟩ := hx56
          obtain ⟨vc8, vr8, vd8, vp8, rfl, ho8, hp8⟩ := hx49
          have hp9 := hp8
          obtain ⟨g7, rfl, hg7, r7⟩ := hx7
          obtain ⟨g8, rfl, hg8, r8⟩ := hx8
          obtain ⟨A9, c9, rfl, -, -⟩ := ho9.cells.form
          obtain ⟨B9, d9, rfl, -, -⟩ := OwnR.form ho9.recs
          obtain ⟨C9, e9, rfl, -, -⟩ := OwnR.form ho9.done
          obtain ⟨D9, f9, rfl, -, -⟩ := OwnP.form hp9
          have Hne := Lib.hid (show g7 ≠ g8 from r7.ne r8 (by decide))
          have hne1 := Hne.out
          have hne2 := Ne.symm Hne.out
          have Ho9 := Lib.hid ho9
          have Hp9 := Lib.hid hp9
          have R7 := Lib.hid r7
          have R8 := Lib.hid r8
          have HSR := Lib.hid hsR
          have z7 := r7.lt
          have z8 := r8.lt
          have x0 := r7.cell 0
          have x1 := r7.cell 1
          have x2 := r7.cell 2
          have x3 := r7.cell 3
          have x4 := r7.cell 4
          have x5 := r7.cell 5
          have x6 := r7.cell 6
          have x7 := r7.cell 7
          have x8 := r7.cell 8
          simp only [zeroPart, List.getElem?_cons_zero, List.getElem?_cons_succ] at x0 x1 x2 x3 x4 x5 x6 x7 x8
          have y0 := r7.frozen 0
          have y1 := r7.frozen 1
          have y2 := r7.frozen 2
          have y3 := r7.frozen 3
          have y4 := r7.frozen 4
          have y5 := r7.frozen 5
          have y6 := r7.frozen 6
          have y7 := r7.frozen 7
          have y8 := r7.frozen 8
          have t0 := r8.cell 0
          have t1 := r8.cell 1
          have t2 := r8.cell 2
          have t3 := r8.cell 3
          have t4 := r8.cell 4
          have t5 := r8.cell 5
          have t6 := r8.cell 6
          have t7 := r8.cell 7
          have t8 := r8.cell 8
          have t9 := r8.cell 9
          have t10 := r8.cell 10
          simp only [repCs, ReplyM.zero, List.getElem?_cons_zero, List.getElem?_cons_succ] at t0 t1 t2 t3 t4 t5 t6 t7 t8 t9 t10
          have u0 := r8.frozen 0
          have u1 := r8.frozen 1
          have u2 := r8.frozen 2
          have u3 := r8.frozen 3
          have u4 := r8.frozen 4
          have u5 := r8.frozen 5
          have u6 := r8.frozen 6
          have u7 := r8.frozen 7
          have u8 := r8.frozen 8
          have u9 := r8.frozen 9
          have u10 := r8.frozen 10
          clear ho9 hp9 ho8 hp8 r7 r8 hsR
          go_wp2
          go_meet
          have q6 := R7.out.sets (partCs (.slice A9 QQ.cells.length c9) (.slice B9 QQ.recs.length d9) (.slice C9 QQ.done.length e9) QQ) 0
          have s6 := Same.sets (S := fun q => q ≠ g7) (g := g7) (fun h => h rfl) (partCs (.slice A9 QQ.cells.length c9) (.slice B9 QQ.recs.length d9) (.slice C9 QQ.done.length e9) QQ) 0 (Same.refl _ wR)
          have q7_ := R8.out.keep s6 (Ne.symm Hne.out)
          have s7 := Same.sets (S := fun q => q ≠ g8) (g := g8) (fun h => h rfl) (repCs (.slice D9 EQ.pairs.length f9) EQ) 0 (Same.refl _ (setsW wR g7 0 (partCs (.slice A9 QQ.cells.length c9) (.slice B9 QQ.recs.length d9) (.slice C9 QQ.done.length e9) QQ)))
          have q7 := q7_.sets (repCs (.slice D9 EQ.pairs.length f9) EQ) 0
          exact ⟨g7, g8, _, _, _, _, rfl, rfl, hg7, hg8, q6.keep s7 Hne.out, (Ho9.out.keepG R7.out s6).keepRep q7_ s7, q7, OwnR.keepG (OwnR.keepG Hp9.out R7.out (by decide) s6) q7_ (by decide) s7, Same.sets' hg8 (repCs (.slice D9 EQ.pairs.length f9) EQ) 0 (Same.sets' hg7 (partCs (.slice A9 QQ.cells.length c9) (.slice B9 QQ.recs.length d9) (.slice C9 QQ.done.length e9) QQ) 0 HSR.out)⟩
    case rest =>
      obtain ⟨g7, g8, vc, vr, vd, vp, rfl, rfl, hg7, hg8, r7, ho7, r8, hp8, hS1⟩ := hcut
      obtain ⟨D0, d0_, rfl, hd1, hd2⟩ := OwnP.form hp8
      unfold maxLen at hd2
      have HP := Lib.hid r7
      have HW := Lib.hid ho7
      have HR := Lib.hid r8
      have HE := Lib.hid hp8
      have HC := Lib.hid (HC.out.keep hS1 trivial)
      have Hsp := Lib.hid (RowR.keepAll Hsp.out hS1)
      have HS := Lib.hid (HS.out.trans hS1)
      have Hgs := Lib.hid (show w.heap.size ≤ g7 ∧ w.heap.size ≤ g8 by rw [HBW.out] at hbw; omega)
      clear r7 ho7 r8 hp8 hS1 hg7 hg8 ga hbw HPS HO Hwr p0 p1 p2 p3 p4 p5 p6 p7 p8 c0 c1 c2 c3 c4 c5 c6 c7 c8 c9 c10 c11 c12 c13 x1 x2 x3 x4 x5 x6 x7 x8
      go_upto_region 10 with (fail)
      go_cut [64] from 58 to 63 (fun v64 wx => ∃ b : Bool, v64 = .bool b ∧ (b = false → EQ.err = 0 ∧ ∀ c ∈ l, 0 ≤ c.at_.tie) ∧ Same (fun _ => True) wc wx)
      case first =>
        have e0 : wc.cell? ⟨g8, 0, none⟩ = some (.int .i64 EQ.err) := HR.out.cell 0
        by_cases hz : EQ.err = 0
        · rw [hz] at e0
          have Hz := Lib.hid hz
          clear hz
          go_wp2_with (go_at_call 52; refine stopAt ?_)
          unfold Hid
          refine (negative_any (.slice (some ad) l.length cl) l _ _ (Hv.out.keepAll HS.out)).mono ?_
          rintro e w9 ⟨b, rfl, hb, hS9⟩
          have HS9 := Lib.hid hS9
          have Hb := Lib.hid hb
          clear hS9 hb e0
          go_wp2
          go_meet
          exact ⟨b, rfl, fun h => ⟨Hz.out, Hb.out h⟩, HS9.out⟩
        · have k2 : (EQ.err != 0) = true := by simpa using hz
          clear hz
          go_wp2
          go_meet
          exact ⟨true, rfl, (fun h => by cases h), Same.refl _ _⟩
      case rest =>
        obtain ⟨b, rfl, hb, hS1⟩ := hcut
        have Hb := Lib.hid hb
        have HP := Lib.hid (HP.out.keep hS1 trivial)
        have HR := Lib.hid (HR.out.keep hS1 trivial)
        have HC := Lib.hid (HC.out.keep hS1 trivial)
        have HW := Lib.hid (HW.out.keepAll hS1)
        have HS := Lib.hid (HS.out.trans hS1)
        have HE := Lib.hid (OwnR.keepAll HE.out hS1)
        have Hsp := Lib.hid (RowR.keepAll Hsp.out hS1)
        clear hS1 hb
        cases b
        case true =>
          go_wp2
          go_ret
          exact ⟨rfl, HS.out⟩
        have hz := (Hb.out rfl).1
        have Htie := Lib.hid (show 0 ≤ c.at_.tie from (Hb.out rfl).2 c (by rw [← Hc.out]; exact List.getElem_mem _))
        have hh := holds_read (p := p) (c := { c with kind := 2, epoch := (ownF p c false).epoch }) rfl (by rw [HQQ.out]; exact hz)
        have hle := read_len (p := p) (c := { c with kind := 2, epoch := (ownF p c false).epoch }) rfl
        rw [HQQ.out] at hh hle
        have Hh := Lib.hid (show Holds c.at_ c.spans EQ.pairs QQ from hh)
        have hle : EQ.pairs.length ≤ 512 := hle
        have Hf := Lib.hid (show FineP (100 * (j + 1)) QQ by
          have := fine_step Hfin.out (apply_step p ({ c with kind := 2, epoch := (ownF p c false).epoch }))
          rw [HQQ.out] at this
          exact this.mono (by show 100 * j + c.writes.length + 1 ≤ 100 * (j + 1); omega))
        clear hz hh Hb HQQ
        go_wp2
        go_loopw [9] (fun v wr => ∃ (i : Nat) (vc vr vd : Value) (pp : PartM), v = .int .i64 i ∧ j + 1 ≤ i ∧ i ≤ l.length ∧ Row wr g7 77 (partCs vc vr vd pp) ∧ OwnPart wr BW vc vr vd pp ∧ Row wr g8 85 (repCs (.slice D0 EQ.pairs.length d0_) EQ) ∧ OwnP wr BW (.slice D0 EQ.pairs.length d0_) EQ.pairs ∧ Row wr g6 81 (cmdCs (.slice As c.spans.length cs_) (.slice Aw c.writes.length cw_) ({ c with kind := 2, epoch := (ownF p c false).epoch })) ∧ Holds c.at_ c.spans EQ.pairs pp ∧ FineP (100 * i) pp ∧ Same (fun _ => True) w wr) (fun v _ => l.length - (intOf v).toNat)
        case atStart => exact ⟨j + 1, _, _, _, _, by go_num, Nat.le_refl _, by omega, HP.out, HW.out, HR.out, HE.out, HC.out, Hh.out, Hf.out, HS.out⟩
        case round =>
          obtain ⟨i, vc, vr, vd, pp, rfl, hji, hil, hr7, hw7, hr8, he8, hc6, hh, hf, hS⟩ := hrel
          clear HP HW HR HE HC Hh Hf HS
          have HP := Lib.hid hr7
          have HW := Lib.hid hw7
          have HR := Lib.hid hr8
          have HE := Lib.hid he8
          have HC := Lib.hid hc6
          have Hh := Lib.hid hh
          have Hf := Lib.hid hf
          have HS := Lib.hid hS
          clear hr7 hw7 hr8 he8 hc6 hh hf
          by_cases hlt : i < l.length
          · obtain ⟨ad2, vs, vw, had, -, hsp, hwr, hcl, c0, hcs⟩ := CmdR.at_ (Hv.out.keepAll hS) hlt
            obtain rfl := Option.some.inj had
            have hciw := Hlw.out l[i] (List.getElem_mem hlt)
            clear had hS
            obtain ⟨ci, hci⟩ : ∃ ci, l[i] = ci := ⟨_, rfl⟩
            rw [hci] at hsp hwr hcl c0 hcs hciw
            have Hci := Lib.hid hci
            obtain ⟨Bs, bs_, rfl, hbs1, hbs2⟩ := SpanR.form hsp
            obtain ⟨Bw, bw_, rfl, hbw1, hbw2⟩ := WrR.form hwr
            obtain ⟨G0, g0_, rfl, hg1_, hg2_⟩ := HW.out.cells.form
            obtain ⟨G1, g1_, rfl, hg3_, hg4_⟩ := OwnR.form HW.out.recs
            obtain ⟨G2, g2_, rfl, hg5_, hg6_⟩ := OwnR.form HW.out.done
            unfold maxLen at hbs2 hbw2 hg2_ hg4_ hg6_
            have Hsi := Lib.hid (hsp.mono (S' := fun _ => True) (by omega) fun _ _ _ => trivial)
            have Hwi := Lib.hid (hwr.mono (S' := fun _ => True) (by omega) fun _ _ _ => trivial)
            have x1 : (0 : Int) ≤ (i : Int) := by omega
            have x2 : (i : Int) < (l.length : Int) := by omega
            have x3 : i < l.length := hlt
            have hep : -9223372036854775808 ≤ pp.epoch ∧ pp.epoch < 9223372036854775807 := by have := Hf.out.epoch; omega
            have c1 := hcs 1 (by omega) (by omega)
            have c2 := hcs 2 (by omega) (by omega)
            have c3 := hcs 3 (by omega) (by omega)
            have c4 := hcs 4 (by omega) (by omega)
            have c5 := hcs 5 (by omega) (by omega)
            have c6 := hcs 6 (by omega) (by omega)
            have c7 := hcs 7 (by omega) (by omega)
            have c8 := hcs 8 (by omega) (by omega)
            have c9 := hcs 9 (by omega) (by omega)
            have c10 := hcs 10 (by omega) (by omega)
            have c11 := hcs 11 (by omega) (by omega)
            have c12 := hcs 12 (by omega) (by omega)
            have c13 := hcs 13 (by omega) (by omega)
            simp only [cmdCs, List.getElem?_cons_zero, List.getElem?_cons_succ] at c1 c2 c3 c4 c5 c6 c7 c8 c9 c10 c11 c12 c13
            clear hsp hwr hcl hcs hci
            have r_ := HC.out
            have e0 := r_.cell 0
            have e1 := r_.cell 1
            have e2 := r_.cell 2
            have e3 := r_.cell 3
            have e4 := r_.cell 4
            have e5 := r_.cell 5
            have e6 := r_.cell 6
            have e7 := r_.cell 7
            have e8 := r_.cell 8
            have e9 := r_.cell 9
            have e10 := r_.cell 10
            have e11 := r_.cell 11
            have e12 := r_.cell 12
            have e13 := r_.cell 13
            simp only [partCs, cmdCs, repCs, tryCs, stCs, wrCs, lckCs, celCs, pairCs, List.getElem?_cons_zero, List.getElem?_cons_succ] at e0 e1 e2 e3 e4 e5 e6 e7 e8 e9 e10 e11 e12 e13
            clear r_
            go_wp2
            go_cut [88] from 73 to 87 (fun v88 wx => v88 = .bool (decide (ci.kind = 3 ∧ ci.at_ = c.at_)) ∧ Same (fun _ => True) wr wx)
            case first =>
              have t2 := fun W => st_run ci.at_ c.at_ W
              have c9' : wr.cell? ⟨(ad.add (i * 14)).block, (ad.add (i * 14)).off + 8 + 1, none⟩ = some (.int .i64 ci.at_.tie) := c9
              by_cases hk3 : ci.kind = 3
              · have t1 : (ci.kind == 3) = true := by simp [hk3]
                by_cases ha3 : ci.at_ = c.at_
                · have t3 : (ci.at_ == c.at_) = true := by simp [ha3]
                  rw [t3] at t2
                  have Hd := Lib.hid (show decide (ci.kind = 3 ∧ ci.at_ = c.at_) = true by simp [hk3, ha3])
                  clear t3 hk3 ha3
                  go_quiet (fail)
                  go_wp2
                  go_meet
                  exact ⟨by rw [Hd.out], (Same.refl _ _).drewN _⟩
                · have t3 : (ci.at_ == c.at_) = false := by simpa using ha3
                  rw [t3] at t2
                  have Hd := Lib.hid (show decide (ci.kind = 3 ∧ ci.at_ = c.at_) = false by simp [ha3])
                  clear t3 hk3 ha3
                  go_quiet (fail)
                  go_wp2
                  go_meet
                  exact ⟨by rw [Hd.out], (Same.refl _ _).drewN _⟩
              · have t1 : (ci.kind == 3) = false := by simpa using hk3
                have Hd := Lib.hid (show decide (ci.kind = 3 ∧ ci.at_ = c.at_) = false by simp [hk3])
                clear hk3 t2
                go_quiet (fail)
                go_wp2
                go_meet
                exact ⟨by rw [Hd.out], (Same.refl _ _).drewN _⟩
            case rest =>
              obtain ⟨rfl, hS1⟩ := hcut
              have HP := Lib.hid (HP.out.keep hS1 trivial)
              have HR := Lib.hid (HR.out.keep hS1 trivial)
              have HC := Lib.hid (HC.out.keep hS1 trivial)
              have HW := Lib.hid (HW.out.keepAll hS1)
              have HS := Lib.hid (HS.out.trans hS1)
              have HE := Lib.hid (OwnR.keepAll HE.out hS1)
              have Hsi := Lib.hid (RowR.keepAll Hsi.out hS1)
              have Hwi := Lib.hid (RowR.keepAll Hwi.out hS1)
              have c0 := hS1.cell (p := (ad.add (i * 14))) trivial c0
              have c1 := hS1.cell (p := ⟨(ad.add (i * 14)).block, (ad.add (i * 14)).off + 1, none⟩) trivial c1
              have c2 := hS1.cell (p := ⟨(ad.add (i * 14)).block, (ad.add (i * 14)).off + 2, none⟩) trivial c2
              have c3 := hS1.cell (p := ⟨(ad.add (i * 14)).block, (ad.add (i * 14)).off + 3, none⟩) trivial c3
              have c4 := hS1.cell (p := ⟨(ad.add (i * 14)).block, (ad.add (i * 14)).off + 4, none⟩) trivial c4
              have c5 := hS1.cell (p := ⟨(ad.add (i * 14)).block, (ad.add (i * 14)).off + 5, none⟩) trivial c5
              have c6 := hS1.cell (p := ⟨(ad.add (i * 14)).block, (ad.add (i * 14)).off + 6, none⟩) trivial c6
              have c7 := hS1.cell (p := ⟨(ad.add (i * 14)).block, (ad.add (i * 14)).off + 7, none⟩) trivial c7
              have c8 := hS1.cell (p := ⟨(ad.add (i * 14)).block, (ad.add (i * 14)).off + 8, none⟩) trivial c8
              have c9 := hS1.cell (p := ⟨(ad.add (i * 14)).block, (ad.add (i * 14)).off + 9, none⟩) trivial c9
              have c10 := hS1.cell (p := ⟨(ad.add (i * 14)).block, (ad.add (i * 14)).off + 10, none⟩) trivial c10
              have c11 := hS1.cell (p := ⟨(ad.add (i * 14)).block, (ad.add (i * 14)).off + 11, none⟩) trivial c11
              have c12 := hS1.cell (p := ⟨(ad.add (i * 14)).block, (ad.add (i * 14)).off + 12, none⟩) trivial c12
              have c13 := hS1.cell (p := ⟨(ad.add (i * 14)).block, (ad.add (i * 14)).off + 13, none⟩) trivial c13
              clear hS1 e0 e1 e2 e3 e4 e5 e6 e7 e8 e9 e10 e11 e12 e13
              by_cases hno : ci.kind = 3 ∧ ci.at_ = c.at_
              · rw [decide_eq_true hno]
                clear hno
                go_wp2
                go_ret
                exact ⟨rfl, HS.out⟩
              rw [decide_eq_false hno]
              have Hno := Lib.hid hno
              clear hno
              have r_ := HP.out
              have p0 := r_.cell 0
              have p1 := r_.cell 1
              have p2 := r_.cell 2
              have p3 := r_.cell 3
              have p4 := r_.cell 4
              have p5 := r_.cell 5
              have p6 := r_.cell 6
              have p7 := r_.cell 7
              have p8 := r_.cell 8
              simp only [partCs, cmdCs, repCs, tryCs, stCs, wrCs, lckCs, celCs, pairCs, List.getElem?_cons_zero, List.getElem?_cons_succ] at p0 p1 p2 p3 p4 p5 p6 p7 p8
              clear r_
              have hbw : BW ≤ wc.heap.size := by rw [HBW.out]; exact HS.out.size
              obtain ⟨Q2, E2, hQE⟩ : ∃ Q E, applyF pp (ownF pp ci false) = (Q, E) := ⟨_, _, rfl⟩
              have ga := fun W (hW : Same (fun _ => True) wc W) => apply_any (100 * i) (fun _ => True) (.slice G0 pp.cells.length g0_) (.slice G1 pp.recs.length g1_) (.slice G2 pp.done.length g2_) (.slice Bs ci.spans.length bs_) (.slice Bw ci.writes.length bw_) pp (ownF pp ci false) W (HW.out.reads.all.keepAll hW) (Hf.out.toN (by omega)) Hf.out.cells (by show 100 * i + ci.writes.length ≤ 100000; omega) (by omega) (RowR.keepAll Hsi.out hW) (RowR.keepAll Hwi.out hW)
              simp only [hQE] at ga
              have HQ2 := Lib.hid hQE
              clear hQE
              go_upto_region 17 with (fail)
              go_cut [89] from 90 to 99 (fun v89 wx => ∃ vc vr vd, Row wx g7 77 (partCs vc vr vd Q2) ∧ OwnPart wx BW vc vr vd Q2 ∧ Row wx g8 85 (repCs (.slice D0 EQ.pairs.length d0_) EQ) ∧ OwnP wx BW (.slice D0 EQ.pairs.length d0_) EQ.pairs ∧ Row wx g6 81 (cmdCs (.slice As c.spans.length cs_) (.slice Aw c.writes.length cw_) ({ c with kind := 2, epoch := (ownF p c false).epoch })) ∧ Same (fun _ => True) w wx)
              case first =>
                refine wp_region_tail_d (L := [.eq (partV (.slice G0 pp.cells.length g0_) (.slice G1 pp.recs.length g1_) (.slice G2 pp.done.length g2_) pp), .eq (partV (.slice G0 pp.cells.length g0_) (.slice G1 pp.recs.length g1_) (.slice G2 pp.done.length g2_) pp), .eq (.slice (some ad) l.length cl), .eq (.int .i64 i), .eq (.pointer (some (ad.add (i * 14)))), .eq (cmdV (.slice Bs ci.spans.length bs_) (.slice Bw ci.writes.length bw_) ci), .eq (cmdV (.slice Bs ci.spans.length bs_) (.slice Bw ci.writes.length bw_) (ownF pp ci false)), .of ⟨fun v w => ∃ vc vr vd vp, v = .tuple #[partV vc vr vd Q2, repV vp E2] ∧ OwnPart w BW vc vr vd Q2 ∧ OwnP w BW vp E2.pairs, fun _ _ _ ⟨vc, vr, vd, vp, h1, h2, h3⟩ k => ⟨vc, vr, vd, vp, h1, h2.keepAll k, h3.keepAll k⟩⟩, .of ⟨fun v w => ∃ vc vr vd vp, v = .tuple #[partV vc vr vd Q2, repV vp E2] ∧ OwnPart w BW vc vr vd Q2 ∧ OwnP w BW vp E2.pairs, fun _ _ _ ⟨vc, vr, vd, vp, h1, h2, h3⟩ k => ⟨vc, vr, vd, vp, h1, h2.keepAll k, h3.keepAll k⟩⟩, .of ⟨fun v w => ∃ vc vr vd, v = partV vc vr vd Q2 ∧ OwnPart w BW vc vr vd Q2, fun _ _ _ ⟨vc, vr, vd, h1, h2⟩ k => ⟨vc, vr, vd, h1, h2.keepAll k⟩⟩, .of ⟨fun v w => ∃ vp, v = repV vp E2 ∧ OwnP w BW vp E2.pairs, fun _ _ _ ⟨vp, h1, h2⟩ k => ⟨vp, h1, h2.keepAll k⟩⟩]) 11 10 (by omega) (by kernel_rfl) (by kernel_rfl) rfl rfl rfl rfl rfl rfl ?_ ?_ ?_
                · refine ⟨?_, ?_, ?_, ?_, ?_, ?_, ?_, ?_, ?_, ?_, ?_, trivial⟩
                  · intro ac wc hs hd hz hf hw K hK
                    have e0 : ac.eval (.tmp 7) = (.pointer (some ⟨g7, 0, none⟩)) := hf 7 rfl
                    have m0 : wc.cell? ⟨g7, 0, none⟩ = some (.int .i64 pp.epoch) := hs.cell (p := ⟨g7, 0, none⟩) trivial p0
                    have m1 : wc.cell? ⟨g7, 1, none⟩ = some (.int .i64 pp.holder) := hs.cell (p := ⟨g7, 1, none⟩) trivial p1
                    have m2 : wc.cell? ⟨g7, 2, none⟩ = some (.int .i64 pp.floor.wall) := hs.cell (p := ⟨g7, 2, none⟩) trivial p2
                    have m3 : wc.cell? ⟨g7, 3, none⟩ = some (.int .i64 pp.floor.tie) := hs.cell (p := ⟨g7, 3, none⟩) trivial p3
                    have m4 : wc.cell? ⟨g7, 4, none⟩ = some (.int .i64 pp.closed) := hs.cell (p := ⟨g7, 4, none⟩) trivial p4
                    have m5 : wc.cell? ⟨g7, 5, none⟩ = some (.int .i64 pp.low) := hs.cell (p := ⟨g7, 5, none⟩) trivial p5
                    have m6 : wc.cell? ⟨g7, 6, none⟩ = some (.slice G0 pp.cells.length g0_) := hs.cell (p := ⟨g7, 6, none⟩) trivial p6
                    have m7 : wc.cell? ⟨g7, 7, none⟩ = some (.slice G1 pp.recs.length g1_) := hs.cell (p := ⟨g7, 7, none⟩) trivial p7
                    have m8 : wc.cell? ⟨g7, 8, none⟩ = some (.slice G2 pp.done.length g2_) := hs.cell (p := ⟨g7, 8, none⟩) trivial p8
                    clear hd hz hf hw
                    simp only [Region.wanted, if_true, Oper.wp, execOp, resolve, List.map_toArray, List.map_cons, List.map_nil, Option.map_some, Option.map_none, e0]
                    go_simp
                    exact hK _ _ rfl (Same.refl _ _)
                  · intro ac wc hs hd hz hf hw K hK
                    have e0 : ac.eval (.tmp 7) = (.pointer (some ⟨g7, 0, none⟩)) := hf 7 rfl
                    have m0 : wc.cell? ⟨g7, 0, none⟩ = some (.int .i64 pp.epoch) := hs.cell (p := ⟨g7, 0, none⟩) trivial p0
                    have m1 : wc.cell? ⟨g7, 1, none⟩ = some (.int .i64 pp.holder) := hs.cell (p := ⟨g7, 1, none⟩) trivial p1
                    have m2 : wc.cell? ⟨g7, 2, none⟩ = some (.int .i64 pp.floor.wall) := hs.cell (p := ⟨g7, 2, none⟩) trivial p2
                    have m3 : wc.cell? ⟨g7, 3, none⟩ = some (.int .i64 pp.floor.tie) := hs.cell (p := ⟨g7, 3, none⟩) trivial p3
                    have m4 : wc.cell? ⟨g7, 4, none⟩ = some (.int .i64 pp.closed) := hs.cell (p := ⟨g7, 4, none⟩) trivial p4
                    have m5 : wc.cell? ⟨g7, 5, none⟩ = some (.int .i64 pp.low) := hs.cell (p := ⟨g7, 5, none⟩) trivial p5
                    have m6 : wc.cell? ⟨g7, 6, none⟩ = some (.slice G0 pp.cells.length g0_) := hs.cell (p := ⟨g7, 6, none⟩) trivial p6
                    have m7 : wc.cell? ⟨g7, 7, none⟩ = some (.slice G1 pp.recs.length g1_) := hs.cell (p := ⟨g7, 7, none⟩) trivial p7
                    have m8 : wc.cell? ⟨g7, 8, none⟩ = some (.slice G2 pp.done.length g2_) := hs.cell (p := ⟨g7, 8, none⟩) trivial p8
                    clear hd hz hf hw
                    simp only [Region.wanted, if_true, Oper.wp, execOp, resolve, List.map_toArray, List.map_cons, List.map_nil, Option.map_some, Option.map_none, e0]
                    go_simp
                    exact hK _ _ rfl (Same.refl _ _)
                  · intro ac wc hs hd hz hf hw K hK
                    have e0 : ac.eval (.tmp 0) = (.slice (some ad) l.length cl) := hf 0 rfl
                    clear hd hz hf hw
                    simp only [Region.wanted, if_true, Oper.wp, execOp, resolve, List.map_toArray, List.map_cons, List.map_nil, Option.map_some, Option.map_none, e0]
                    go_simp
                    exact hK _ _ rfl (Same.refl _ _)
                  · intro ac wc hs hd hz hf hw K hK
                    have e0 : ac.eval (.tmp 9) = (.int .i64 i) := hf 9 rfl
                    clear hd hz hf hw
                    simp only [Region.wanted, if_true, Oper.wp, execOp, resolve, List.map_toArray, List.map_cons, List.map_nil, Option.map_some, Option.map_none, e0]
                    go_simp
                    exact hK _ _ rfl (Same.refl _ _)
                  · intro ac wc hs hd hz hf hw K hK
                    have e0 : ac.eval (.tmp 92) = (.slice (some ad) l.length cl) := hw 2 rfl
                    have e1 : ac.eval (.tmp 93) = (.int .i64 i) := hw 3 rfl
                    clear hd hz hf hw
                    simp only [Region.wanted, if_true, Oper.wp, execOp, resolve, List.map_toArray, List.map_cons, List.map_nil, Option.map_some, Option.map_none, e0, e1]
                    go_simp
                    exact hK _ _ rfl (Same.refl _ _)
                  · intro ac wc hs hd hz hf hw K hK
                    have e0 : ac.eval (.tmp 94) = (.pointer (some (ad.add (i * 14)))) := hw 4 rfl
                    have m0 : wc.cell? (ad.add (i * 14)) = some (.int .i64 ci.kind) := hs.cell (p := (ad.add (i * 14))) trivial c0
                    have m1 : wc.cell? ⟨(ad.add (i * 14)).block, (ad.add (i * 14)).off + 1, none⟩ = some (.int .i64 ci.epoch) := hs.cell (p := ⟨(ad.add (i * 14)).block, (ad.add (i * 14)).off + 1, none⟩) trivial c1
                    have m2 : wc.cell? ⟨(ad.add (i * 14)).block, (ad.add (i * 14)).off + 2, none⟩ = some (.int .i64 ci.node) := hs.cell (p := ⟨(ad.add (i * 14)).block, (ad.add (i * 14)).off + 2, none⟩) trivial c2
                    have m3 : wc.cell? ⟨(ad.add (i * 14)).block, (ad.add (i * 14)).off + 3, none⟩ = some (.int .i64 ci.home) := hs.cell (p := ⟨(ad.add (i * 14)).block, (ad.add (i * 14)).off + 3, none⟩) trivial c3
                    have m4 : wc.cell? ⟨(ad.add (i * 14)).block, (ad.add (i * 14)).off + 4, none⟩ = some (.int .i64 ci.by_.node) := hs.cell (p := ⟨(ad.add (i * 14)).block, (ad.add (i * 14)).off + 4, none⟩) trivial c4
                    have m5 : wc.cell? ⟨(ad.add (i * 14)).block, (ad.add (i * 14)).off + 5, none⟩ = some (.int .i64 ci.by_.life) := hs.cell (p := ⟨(ad.add (i * 14)).block, (ad.add (i * 14)).off + 5, none⟩) trivial c5
                    have m6 : wc.cell? ⟨(ad.add (i * 14)).block, (ad.add (i * 14)).off + 6, none⟩ = some (.int .i64 ci.by_.seq) := hs.cell (p := ⟨(ad.add (i * 14)).block, (ad.add (i * 14)).off + 6, none⟩) trivial c6
                    have m7 : wc.cell? ⟨(ad.add (i * 14)).block, (ad.add (i * 14)).off + 7, none⟩ = some (.int .i64 ci.by_.attempt) := hs.cell (p := ⟨(ad.add (i * 14)).block, (ad.add (i * 14)).off + 7, none⟩) trivial c7
                    have m8 : wc.cell? ⟨(ad.add (i * 14)).block, (ad.add (i * 14)).off + 8, none⟩ = some (.int .i64 ci.at_.wall) := hs.cell (p := ⟨(ad.add (i * 14)).block, (ad.add (i * 14)).off + 8, none⟩) trivial c8
                    have m9 : wc.cell? ⟨(ad.add (i * 14)).block, (ad.add (i * 14)).off + 9, none⟩ = some (.int .i64 ci.at_.tie) := hs.cell (p := ⟨(ad.add (i * 14)).block, (ad.add (i * 14)).off + 9, none⟩) trivial c9
                    have m10 : wc.cell? ⟨(ad.add (i * 14)).block, (ad.add (i * 14)).off + 10, none⟩ = some (.int .i64 ci.wall) := hs.cell (p := ⟨(ad.add (i * 14)).block, (ad.add (i * 14)).off + 10, none⟩) trivial c10
                    have m11 : wc.cell? ⟨(ad.add (i * 14)).block, (ad.add (i * 14)).off + 11, none⟩ = some (.bool ci.yes) := hs.cell (p := ⟨(ad.add (i * 14)).block, (ad.add (i * 14)).off + 11, none⟩) trivial c11
                    have m12 : wc.cell? ⟨(ad.add (i * 14)).block, (ad.add (i * 14)).off + 12, none⟩ = some (.slice Bs ci.spans.length bs_) := hs.cell (p := ⟨(ad.add (i * 14)).block, (ad.add (i * 14)).off + 12, none⟩) trivial c12
                    have m13 : wc.cell? ⟨(ad.add (i * 14)).block, (ad.add (i * 14)).off + 13, none⟩ = some (.slice Bw ci.writes.length bw_) := hs.cell (p := ⟨(ad.add (i * 14)).block, (ad.add (i * 14)).off + 13, none⟩) trivial c13
                    clear hd hz hf hw
                    simp only [Region.wanted, if_true, Oper.wp, execOp, resolve, List.map_toArray, List.map_cons, List.map_nil, Option.map_some, Option.map_none, e0]
                    go_simp
                    exact hK _ _ rfl (Same.refl _ _)
                  · intro ac wc hs hd hz hf hw K hK
                    have e0 : ac.eval (.tmp 91) = (partV (.slice G0 pp.cells.length g0_) (.slice G1 pp.recs.length g1_) (.slice G2 pp.done.length g2_) pp) := hw 1 rfl
                    have e1 : ac.eval (.tmp 95) = (cmdV (.slice Bs ci.spans.length bs_) (.slice Bw ci.writes.length bw_) ci) := hw 5 rfl
                    clear hd hz hf hw
                    simp only [Region.wanted, if_true, Oper.wp, execOp, resolve, List.map_toArray, List.map_cons, List.map_nil, Option.map_some, Option.map_none, e0, e1]
                    go_simp
                    refine (ownp_any _ _ _ _ _ pp ci false wc ⟨_, _, _, rfl⟩ ⟨_, _, _, rfl⟩ ⟨_, _, _, rfl⟩ ⟨_, _, _, rfl⟩ ⟨_, _, _, rfl⟩ hep).mono ?_
                    rintro e wd ⟨rfl, hs2⟩
                    exact hK _ _ rfl hs2
                  · intro ac wc hs hd hz hf hw K hK
                    have e0 : ac.eval (.tmp 90) = (partV (.slice G0 pp.cells.length g0_) (.slice G1 pp.recs.length g1_) (.slice G2 pp.done.length g2_) pp) := hw 0 rfl
                    have e1 : ac.eval (.tmp 96) = (cmdV (.slice Bs ci.spans.length bs_) (.slice Bw ci.writes.length bw_) (ownF pp ci false)) := hw 6 rfl
                    clear hd hz hf hw
                    simp only [Region.wanted, if_true, Oper.wp, execOp, resolve, List.map_toArray, List.map_cons, List.map_nil, Option.map_some, Option.map_none, e0, e1]
                    go_simp
                    refine (ga wc hs).mono ?_
                    rintro e wd ⟨vc9, vr9, vd9, vp9, rfl, ho9, hp9, hs9⟩
                    exact hK _ _ ⟨vc9, vr9, vd9, vp9, rfl, ho9.lower (by have := hs.size; omega), hp9.lower (by have := hs.size; omega)⟩ hs9
                  · intro ac wc hs hd hz hf hw K hK
                    have p0 : (⟨fun v w => ∃ vc vr vd vp, v = .tuple #[partV vc vr vd Q2, repV vp E2] ∧ OwnPart w BW vc vr vd Q2 ∧ OwnP w BW vp E2.pairs, fun _ _ _ ⟨vc, vr, vd, vp, h1, h2, h3⟩ k => ⟨vc, vr, vd, vp, h1, h2.keepAll k, h3.keepAll k⟩⟩ : SP).p (ac.eval (.tmp 97)) wc := hw 7 rfl
                    obtain ⟨u0, e0⟩ : ∃ u, ac.eval (.tmp 97) = u := ⟨_, rfl⟩
                    rw [e0] at p0
                    clear hd hz hf hw
                    simp only [Region.wanted, if_true, Oper.wp, execOp, resolve, List.map_toArray, List.map_cons, List.map_nil, Option.map_some, Option.map_none, e0]
                    go_simp
                    exact hK _ _ p0 (Same.refl _ _)
                  · intro ac wc hs hd hz hf hw K hK
                    have p0 : (⟨fun v w => ∃ vc vr vd vp, v = .tuple #[partV vc vr vd Q2, repV vp E2] ∧ OwnPart w BW vc vr vd Q2 ∧ OwnP w BW vp E2.pairs, fun _ _ _ ⟨vc, vr, vd, vp, h1, h2, h3⟩ k => ⟨vc, vr, vd, vp, h1, h2.keepAll k, h3.keepAll k⟩⟩ : SP).p (ac.eval (.tmp 89)) wc := hw 8 rfl
                    obtain ⟨u0, e0⟩ : ∃ u, ac.eval (.tmp 89) = u := ⟨_, rfl⟩
                    rw [e0] at p0
                    clear hd hz hf hw
                    simp only [Region.wanted, if_true, Oper.wp, execOp, resolve, List.map_toArray, List.map_cons, List.map_nil, Option.map_some, Option.map_none, e0]
                    go_simp
                    obtain ⟨vc9, vr9, vd9, vp9, e, h1, h2⟩ := p0
                    subst e
                    go_simp
                    exact hK _ _ ⟨vc9, vr9, vd9, rfl, h1⟩ (Same.refl _ _)
                  · intro ac wc hs hd hz hf hw K hK
                    have p0 : (⟨fun v w => ∃ vc vr vd vp, v = .tuple #[partV vc vr vd Q2, repV vp E2] ∧ OwnPart w BW vc vr vd Q2 ∧ OwnP w BW vp E2.pairs, fun _ _ _ ⟨vc, vr, vd, vp, h1, h2, h3⟩ k => ⟨vc, vr, vd, vp, h1, h2.keepAll k, h3.keepAll k⟩⟩ : SP).p (ac.eval (.tmp 89)) wc := hw 8 rfl
                    obtain ⟨u0, e0⟩ : ∃ u, ac.eval (.tmp 89) = u := ⟨_, rfl⟩
                    rw [e0] at p0
                    clear hd hz hf hw
                    simp only [Region.wanted, if_true, Oper.wp, execOp, resolve, List.map_toArray, List.map_cons, List.map_nil, Option.map_some, Option.map_none, e0]
                    go_simp
                    obtain ⟨vc9, vr9, vd9, vp9, e, h1, h2⟩ := p0
                    subst e
                    go_simp
                    exact hK _ _ ⟨vp9, rfl, h2⟩ (Same.refl _ _)
                · intro vs wR hvl hvp hsR
                  rcases vs with _ | ⟨z0, _ | ⟨z1, _ | ⟨z2, _ | ⟨z3, _ | ⟨z4, _ | ⟨z5, _ | ⟨z6, _ | ⟨z7, _ | ⟨z8, _ | ⟨z9, _ | ⟨z10, _ | ⟨zz, zr⟩⟩⟩⟩⟩⟩⟩⟩⟩⟩⟩⟩
                  rotate_right 1
                  · simp at hvl
                  · simp at hvl
                  · simp at hvl
                  · simp at hvl
                  · simp at hvl
                  · simp at hvl
                  · simp at hvl
                  · simp at hvl
                  · simp at hvl
                  · simp at hvl
                  · simp at hvl
                  · simp at hvl
                  · obtain rfl : z0 = (partV (.slice G0 pp.cells.length g0_) (.slice G1 pp.recs.length g1_) (.slice G2 pp.done.length g2_) pp) := hvp 0 (by omega)
                    obtain rfl : z1 = (partV (.slice G0 pp.cells.length g0_) (.slice G1 pp.recs.length g1_) (.slice G2 pp.done.length g2_) pp) := hvp 1 (by omega)
                    obtain rfl : z2 = (.slice (some ad) l.length cl) := hvp 2 (by omega)
                    obtain rfl : z3 = (.int .i64 i) := hvp 3 (by omega)
                    obtain rfl : z4 = (.pointer (some (ad.add (i * 14)))) := hvp 4 (by omega)
                    obtain rfl : z5 = (cmdV (.slice Bs ci.spans.length bs_) (.slice Bw ci.writes.length bw_) ci) := hvp 5 (by omega)
                    obtain rfl : z6 = (cmdV (.slice Bs ci.spans.length bs_) (.slice Bw ci.writes.length bw_) (ownF pp ci false)) := hvp 6 (by omega)
                    have hx97 : (⟨fun v w => ∃ vc vr vd vp, v = .tuple #[partV vc vr vd Q2, repV vp E2] ∧ OwnPart w BW vc vr vd Q2 ∧ OwnP w BW vp E2.pairs, fun _ _ _ ⟨vc, vr, vd, vp, h1, h2, h3⟩ k => ⟨vc, vr, vd, vp, h1, h2.keepAll k, h3.keepAll k⟩⟩ : SP).p z7 wR := hvp 7 (by omega)
                    have hx89 : (⟨fun v w => ∃ vc vr vd vp, v = .tuple #[partV vc vr vd Q2, repV vp E2] ∧ OwnPart w BW vc vr vd Q2 ∧ OwnP w BW vp E2.pairs, fun _ _ _ ⟨vc, vr, vd, vp, h1, h2, h3⟩ k => ⟨vc, vr, vd, vp, h1, h2.keepAll k, h3.keepAll k⟩⟩ : SP).p z8 wR := hvp 8 (by omega)
                    have hx98 : (⟨fun v w => ∃ vc vr vd, v = partV vc vr vd Q2 ∧ OwnPart w BW vc vr vd Q2, fun _ _ _ ⟨vc, vr, vd, h1, h2⟩ k => ⟨vc, vr, vd, h1, h2.keepAll k⟩⟩ : SP).p z9 wR := hvp 9 (by omega)
                    have hx99 : (⟨fun v w => ∃ vp, v = repV vp E2 ∧ OwnP w BW vp E2.pairs, fun _ _ _ ⟨vp, h1, h2⟩ k => ⟨vp, h1, h2.keepAll k⟩⟩ : SP).p z10 wR := hvp 10 (by omega)
                    clear hvl hvp
                    simp only [putAll, Act.put, List.setIfInBounds_toArray, List.set_cons_succ, List.set_cons_zero, List.take_succ_cons, List.take_zero, List.drop_succ_cons, List.drop_zero, List.eraseIdx_cons_succ, List.eraseIdx_cons_zero]
                    obtain ⟨vc8, vr8, vd8, vp8, rfl, ho8, hp8⟩ := hx89
                    clear ho8 hp8
                    obtain ⟨vc9, vr9, vd9, rfl, ho9⟩ := hx98
                    obtain ⟨A9, n9, rfl, -, -⟩ := ho9.cells.form
                    obtain ⟨B9, m9, rfl, -, -⟩ := OwnR.form ho9.recs
                    obtain ⟨C9, k9, rfl, -, -⟩ := OwnR.form ho9.done
                    have Ho9 := Lib.hid ho9
                    have HSR := Lib.hid hsR
                    have HPR := Lib.hid (HP.out.keep hsR trivial)
                    clear ho9 hsR hbw p0 p1 p2 p3 p4 p5 p6 p7 p8 c0 c1 c2 c3 c4 c5 c6 c7 c8 c9 c10 c11 c12 c13
                    have r_ := HPR.out
                    have z7 := r_.lt
                    have x0 := r_.cell 0
                    have x1 := r_.cell 1
                    have x2 := r_.cell 2
                    have x3 := r_.cell 3
                    have x4 := r_.cell 4
                    have x5 := r_.cell 5
                    have x6 := r_.cell 6
                    have x7 := r_.cell 7
                    have x8 := r_.cell 8
                    simp only [partCs, List.getElem?_cons_zero, List.getElem?_cons_succ] at x0 x1 x2 x3 x4 x5 x6 x7 x8
                    have y0 := r_.frozen 0
                    have y1 := r_.frozen 1
                    have y2 := r_.frozen 2
                    have y3 := r_.frozen 3
                    have y4 := r_.frozen 4
                    have y5 := r_.frozen 5
                    have y6 := r_.frozen 6
                    have y7 := r_.frozen 7
                    have y8 := r_.frozen 8
                    clear r_
                    go_wp2
                    go_meet
                    have q6 := HPR.out.sets (partCs (.slice A9 Q2.cells.length n9) (.slice B9 Q2.recs.length m9) (.slice C9 Q2.done.length k9) Q2) 0
                    have s6 := Same.sets (S := fun q => q ≠ g7) (g := g7) (fun h => h rfl) (partCs (.slice A9 Q2.cells.length n9) (.slice B9 Q2.recs.length m9) (.slice C9 Q2.done.length k9) Q2) 0 (Same.refl _ wR)
                    exact ⟨_, _, _, q6, Ho9.out.keepG HPR.out s6, (HR.out.keep HSR.out trivial).keep s6 (Ne.symm (HP.out.ne HR.out (by decide))), OwnR.keepG (OwnR.keepAll HE.out HSR.out) HPR.out (by decide) s6, (HC.out.keep HSR.out trivial).keep s6 (Ne.symm (HP.out.ne HC.out (by decide))), Same.sets' Hgs.out.1 (partCs (.slice A9 Q2.cells.length n9) (.slice B9 Q2.recs.length m9) (.slice C9 Q2.done.length k9) Q2) 0 (HS.out.trans HSR.out)⟩
                · intro vs wR hvl hvp hsR
                  rcases vs with _ | ⟨z0, _ | ⟨z1, _ | ⟨z2, _ | ⟨z3, _ | ⟨z4, _ | ⟨z5, _ | ⟨z6, _ | ⟨z7, _ | ⟨z8, _ | ⟨z9, _ | ⟨zz, zr⟩⟩⟩⟩⟩⟩⟩⟩⟩⟩⟩
                  rotate_right 1
                  · simp at hvl
                  · simp at hvl
                  · simp at hvl
                  · simp at hvl
                  · simp at hvl
                  · simp at hvl
                  · simp at hvl
                  · simp at hvl
                  · simp at hvl
                  · simp at hvl
                  · simp at hvl
                  · obtain rfl : z0 = (partV (.slice G0 pp.cells.length g0_) (.slice G1 pp.recs.length g1_) (.slice G2 pp.done.length g2_) pp) := hvp 0 (by omega)
                    obtain rfl : z1 = (partV (.slice G0 pp.cells.length g0_) (.slice G1 pp.recs.length g1_) (.slice G2 pp.done.length g2_) pp) := hvp 1 (by omega)
                    obtain rfl : z2 = (.slice (some ad) l.length cl) := hvp 2 (by omega)
                    obtain rfl : z3 = (.int .i64 i) := hvp 3 (by omega)
                    obtain rfl : z4 = (.pointer (some (ad.add (i * 14)))) := hvp 4 (by omega)
                    obtain rfl : z5 = (cmdV (.slice Bs ci.spans.length bs_) (.slice Bw ci.writes.length bw_) ci) := hvp 5 (by omega)
                    obtain rfl : z6 = (cmdV (.slice Bs ci.spans.length bs_) (.slice Bw ci.writes.length bw_) (ownF pp ci false)) := hvp 6 (by omega)
                    have hx97 : (⟨fun v w => ∃ vc vr vd vp, v = .tuple #[partV vc vr vd Q2, repV vp E2] ∧ OwnPart w BW vc vr vd Q2 ∧ OwnP w BW vp E2.pairs, fun _ _ _ ⟨vc, vr, vd, vp, h1, h2, h3⟩ k => ⟨vc, vr, vd, vp, h1, h2.keepAll k, h3.keepAll k⟩⟩ : SP).p z7 wR := hvp 7 (by omega)
                    have hx89 : (⟨fun v w => ∃ vc vr vd vp, v = .tuple #[partV vc vr vd Q2, repV vp E2] ∧ OwnPart w BW vc vr vd Q2 ∧ OwnP w BW vp E2.pairs, fun _ _ _ ⟨vc, vr, vd, vp, h1, h2, h3⟩ k => ⟨vc, vr, vd, vp, h1, h2.keepAll k, h3.keepAll k⟩⟩ : SP).p z8 wR := hvp 8 (by omega)
                    have hx98 : (⟨fun v w => ∃ vc vr vd, v = partV vc vr vd Q2 ∧ OwnPart w BW vc vr vd Q2, fun _ _ _ ⟨vc, vr, vd, h1, h2⟩ k => ⟨vc, vr, vd, h1, h2.keepAll k⟩⟩ : SP).p z9 wR := hvp 9 (by omega)
                    clear hvl hvp
                    simp only [putAll, Act.put, List.setIfInBounds_toArray, List.set_cons_succ, List.set_cons_zero, List.take_succ_cons, List.take_zero, List.drop_succ_cons, List.drop_zero, List.eraseIdx_cons_succ, List.eraseIdx_cons_zero]
                    obtain ⟨vc8, vr8, vd8, vp8, rfl, ho8, hp8⟩ := hx89
                    clear ho8 hp8
                    obtain ⟨vc9, vr9, vd9, rfl, ho9⟩ := hx98
                    obtain ⟨A9, n9, rfl, -, -⟩ := ho9.cells.form
                    obtain ⟨B9, m9, rfl, -, -⟩ := OwnR.form ho9.recs
                    obtain ⟨C9, k9, rfl, -, -⟩ := OwnR.form ho9.done
                    have Ho9 := Lib.hid ho9
                    have HSR := Lib.hid hsR
                    have HPR := Lib.hid (HP.out.keep hsR trivial)
                    clear ho9 hsR hbw p0 p1 p2 p3 p4 p5 p6 p7 p8 c0 c1 c2 c3 c4 c5 c6 c7 c8 c9 c10 c11 c12 c13
                    have r_ := HPR.out
                    have z7 := r_.lt
                    have x0 := r_.cell 0
                    have x1 := r_.cell 1
                    have x2 := r_.cell 2
                    have x3 := r_.cell 3
                    have x4 := r_.cell 4
                    have x5 := r_.cell 5
                    have x6 := r_.cell 6
                    have x7 := r_.cell 7
                    have x8 := r_.cell 8
                    simp only [partCs, List.getElem?_cons_zero, List.getElem?_cons_succ] at x0 x1 x2 x3 x4 x5 x6 x7 x8
                    have y0 := r_.frozen 0
                    have y1 := r_.frozen 1
                    have y2 := r_.frozen 2
                    have y3 := r_.frozen 3
                    have y4 := r_.frozen 4
                    have y5 := r_.frozen 5
                    have y6 := r_.frozen 6
                    have y7 := r_.frozen 7
                    have y8 := r_.frozen 8
                    clear r_
                    go_wp2
                    go_meet
                    have q6 := HPR.out.sets (partCs (.slice A9 Q2.cells.length n9) (.slice B9 Q2.recs.length m9) (.slice C9 Q2.done.length k9) Q2) 0
                    have s6 := Same.sets (S := fun q => q ≠ g7) (g := g7) (fun h => h rfl) (partCs (.slice A9 Q2.cells.length n9) (.slice B9 Q2.recs.length m9) (.slice C9 Q2.done.length k9) Q2) 0 (Same.refl _ wR)
                    exact ⟨_, _, _, q6, Ho9.out.keepG HPR.out s6, (HR.out.keep HSR.out trivial).keep s6 (Ne.symm (HP.out.ne HR.out (by decide))), OwnR.keepG (OwnR.keepAll HE.out HSR.out) HPR.out (by decide) s6, (HC.out.keep HSR.out trivial).keep s6 (Ne.symm (HP.out.ne HC.out (by decide))), Same.sets' Hgs.out.1 (partCs (.slice A9 Q2.cells.length n9) (.slice B9 Q2.recs.length m9) (.slice C9 Q2.done.length k9) Q2) 0 (HS.out.trans HSR.out)⟩
              case rest =>
                obtain ⟨vc, vr, vd, hr7, hw7, hr8, he8, hc6, hS1⟩ := hcut
                have hst : StepP pp (ownF pp ci false) Q2 := by
                  have := apply_step pp (ownF pp ci false)
                  rw [HQ2.out] at this
                  exact this
                have Hf2 := Lib.hid (show FineP (100 * (i + 1)) Q2 from (fine_step Hf.out hst).mono (by show 100 * i + ci.writes.length + 1 ≤ 100 * (i + 1); omega))
                have Hst := Lib.hid hst
                clear HP HW HR HE HC HS Hsi Hwi ga hbw hst p0 p1 p2 p3 p4 p5 p6 p7 p8 c0 c1 c2 c3 c4 c5 c6 c7 c8 c9 c10 c11 c12 c13
                have HP := Lib.hid hr7
                have HW := Lib.hid hw7
                have HR := Lib.hid hr8
                have HE := Lib.hid he8
                have HC := Lib.hid hc6
                have HS := Lib.hid hS1
                have Hsp := Lib.hid (RowR.keepAll Hsp0.out hS1)
                obtain ⟨G0, g0_, rfl, hg1_, hg2_⟩ := HW.out.cells.form
                obtain ⟨G1, g1_, rfl, hg3_, hg4_⟩ := OwnR.form HW.out.recs
                obtain ⟨G2, g2_, rfl, hg5_, hg6_⟩ := OwnR.form HW.out.done
                unfold maxLen at hg2_ hg4_ hg6_
                clear hr7 hw7 hr8 he8 hc6 hS1
                have c8 : wc.cell? ⟨g6, 8, none⟩ = some (.int .i64 c.at_.wall) := HC.out.cell 8
                have p5 : wc.cell? ⟨g7, 5, none⟩ = some (.int .i64 Q2.low) := HP.out.cell 5
                by_cases hlow : c.at_.wall < Q2.low
                · go_wp2
                  go_ret
                  exact ⟨rfl, HS.out⟩
                have Hh2 := Lib.hid (holds_step Hh.out Hf.out.cells.good Hst.out Htie.out (fun h => Hno.out ⟨h.1, h.2⟩) hlow)
                clear Hh Hf Hst Hno
                go_wp2
                clear c8 p5
                obtain ⟨BN, hBN⟩ : ∃ BN, BN = wc.heap.size := ⟨_, rfl⟩
                have HBN := Lib.hid hBN
                clear hBN
                have htl := fun k => told_le Q2.cells c.at_ c.spans k
                rw [Hh2.out.told] at htl
                have Htl := Lib.hid htl
                clear htl
                obtain ⟨wo, rfl⟩ : ∃ wo : World, wo = wc := ⟨_, rfl⟩
                have HPo := HP
                have HRo := HR
                have HCo := HC
                have HWo := HW
                have HEo := HE
                have HSo := HS
                have Hspo := Hsp
                go_loopw [10, 11] (fun v u wr => ∃ k : Nat, u = .int .i64 k ∧ k ≤ c.spans.length ∧ OwnP wr BN v (toldAll Q2.cells c.at_ (c.spans.take k)) ∧ Same (fun _ => True) wo wr) (fun _ u _ => c.spans.length - (intOf u).toNat)
                case atStart => exact ⟨0, rfl, Nat.zero_le _, OwnR.nil _ _, Same.refl _ _⟩
                case round =>
                  obtain ⟨k, rfl, hk, hnow, hS1⟩ := hrel
                  have HSn := Lib.hid hS1
                  have HP := Lib.hid (HP.out.keep hS1 trivial)
                  have HR := Lib.hid (HR.out.keep hS1 trivial)
                  have HC := Lib.hid (HC.out.keep hS1 trivial)
                  have HW := Lib.hid (HW.out.keepAll hS1)
                  have HS := Lib.hid (HS.out.trans hS1)
                  have HE := Lib.hid (OwnR.keepAll HE.out hS1)
                  have Hsp := Lib.hid (RowR.keepAll Hsp.out hS1)
                  have HN := Lib.hid hnow
                  obtain ⟨N0, n0_, rfl, hn1, hn2⟩ := OwnP.form hnow
                  unfold maxLen at hn2
                  have htk := Htl.out k
                  clear hS1 hnow
                  by_cases hkl : k < c.spans.length
                  · obtain ⟨as_, has, -, f0_, f1_⟩ := SpanR.cells Hsp.out hkl
                    have Hq := Lib.hid (Hh2.out.quiet c.spans[k] (List.getElem_mem hkl))
                    have Htt := Lib.hid (told_take (cs := Q2.cells) (a := c.at_) hkl)
                    have htk1 := Htl.out (k + 1)
                    rw [told_take hkl, List.length_append] at htk1
                    obtain ⟨s1, s2, hss⟩ : ∃ s1 s2, c.spans[k] = (s1, s2) := ⟨_, _, rfl⟩
                    rw [hss] at f0_ f1_ Hq Htt htk1
                    have hq0 := (quiet_iff c.at_ s1 s2 Q2.cells).2 Hq.out
                    obtain ⟨lk, bb, hbl⟩ : ∃ x y, blocksF Q2.cells s1 s2 c.at_ = (x, y) := ⟨_, _, rfl⟩
                    have gb := fun W (hW : Same (fun _ => True) wr W) => refblocks_any (.slice G0 Q2.cells.length g0_) Q2.cells s1 s2 c.at_ _ W (HW.out.reads.cells.keepAll hW)
                    rw [hbl] at gb hq0
                    have hq0 : bb = false := hq0
                    subst hq0
                    obtain ⟨L, hL⟩ : ∃ L, L = pairsF c.at_ (withinF Q2.cells s1 s2) := ⟨_, rfl⟩
                    rw [← hL] at Htt htk1
                    have HL := Lib.hid hL
                    have Hkl := Lib.hid hkl
                    have x1 : (0 : Int) ≤ (k : Int) := by omega
                    have x2 : (k : Int) < (c.spans.length : Int) := by omega
                    have x3 : k < c.spans.length := hkl
                    subst has
                    have hlb : L.length ≤ 512 := by omega
                    have hna : (toldAll Q2.cells c.at_ (c.spans.take k)).length ≤ 512 := by omega
                    clear hbl hss hL hkl Hq htk1
                    dsimp only at f0_ f1_
                    have p6 : wr.cell? ⟨g7, 6, none⟩ = some (.slice G0 Q2.cells.length g0_) := HP.out.cell 6
                    have c8 : wr.cell? ⟨g6, 8, none⟩ = some (.int .i64 c.at_.wall) := HC.out.cell 8
                    have c9 : wr.cell? ⟨g6, 9, none⟩ = some (.int .i64 c.at_.tie) := HC.out.cell 9
                    have c12 : wr.cell? ⟨g6, 12, none⟩ = some (.slice (some as_) c.spans.length cs_) := HC.out.cell 12
                    go_wp2
                    go_cut [12, 13] from 113 to 125 (fun v12 v13 wx => v13 = .bool false ∧ Same (fun _ => True) wr wx)
                    case first =>
                      refine wp_region_tail_d (L := [.eq (.pointer (some ⟨g7, 6, none⟩)), .eq (.slice G0 Q2.cells.length g0_), .eq (.pointer (some ⟨g6, 12, none⟩)), .eq (.slice (some as_) c.spans.length cs_), .eq (.int .i64 k), .eq (.pointer (some (as_.add (k * 2)))), .eq (.agg #[.string (str s1), .string (str s2)]), .eq (.pointer (some ⟨g6, 8, none⟩)), .eq (stV c.at_), .eq (.tuple #[lckV lk, .bool false]), .eq (.tuple #[lckV lk, .bool false]), .eq (lckV lk), .eq (.bool false), .of ⟨fun v w => ∃ g, v = .pointer (some ⟨g, 0, none⟩) ∧ wr.heap.size ≤ g ∧ Row w g 30 (lckCs Lck.zero), fun _ _ _ ⟨g, h1, h2, h3⟩ k => ⟨g, h1, h2, h3.keep k trivial⟩⟩]) 14 12 (by omega) (by kernel_rfl) (by kernel_rfl) rfl rfl rfl rfl rfl rfl ?_ ?_ ?_
                      · refine ⟨?_, ?_, ?_, ?_, ?_, ?_, ?_, ?_, ?_, ?_, ?_, ?_, ?_, ?_, trivial⟩
                        · intro ac wc hs hd hz hf hw K hK
                          have e0 : ac.eval (.tmp 7) = (.pointer (some ⟨g7, 0, none⟩)) := hf 7 rfl
                          clear hd hz hf hw
                          simp only [Region.wanted, if_true, Oper.wp, execOp, resolve, List.map_toArray, List.map_cons, List.map_nil, Option.map_some, Option.map_none, e0]
                          go_simp
                          exact hK _ _ rfl (Same.refl _ _)
                        · intro ac wc hs hd hz hf hw K hK
                          have e0 : ac.eval (.tmp 114) = (.pointer (some ⟨g7, 6, none⟩)) := hw 0 rfl
                          have m0 : wc.cell? ⟨g7, 6, none⟩ = some (.slice G0 Q2.cells.length g0_) := hs.cell (p := ⟨g7, 6, none⟩) trivial p6
                          clear hd hz hf hw
                          simp only [Region.wanted, if_true, Oper.wp, execOp, resolve, List.map_toArray, List.map_cons, List.map_nil, Option.map_some, Option.map_none, e0]
                          go_simp
                          exact hK _ _ rfl (Same.refl _ _)
                        · intro ac wc hs hd hz hf hw K hK
                          have e0 : ac.eval (.tmp 6) = (.pointer (some ⟨g6, 0, none⟩)) := hf 6 rfl
                          clear hd hz hf hw
                          simp only [Region.wanted, if_true, Oper.wp, execOp, resolve, List.map_toArray, List.map_cons, List.map_nil, Option.map_some, Option.map_none, e0]
                          go_simp
                          exact hK _ _ rfl (Same.refl _ _)
                        · intro ac wc hs hd hz hf hw K hK
                          have e0 : ac.eval (.tmp 116) = (.pointer (some ⟨g6, 12, none⟩)) := hw 2 rfl
                          have m0 : wc.cell? ⟨g6, 12, none⟩ = some (.slice (some as_) c.spans.length cs_) := hs.cell (p := ⟨g6, 12, none⟩) trivial c12
                          clear hd hz hf hw
                          simp only [Region.wanted, if_true, Oper.wp, execOp, resolve, List.map_toArray, List.map_cons, List.map_nil, Option.map_some, Option.map_none, e0]
                          go_simp
                          exact hK _ _ rfl (Same.refl _ _)
                        · intro ac wc hs hd hz hf hw K hK
                          have e0 : ac.eval (.tmp 11) = (.int .i64 k) := hf 11 rfl
                          clear hd hz hf hw
                          simp only [Region.wanted, if_true, Oper.wp, execOp, resolve, List.map_toArray, List.map_cons, List.map_nil, Option.map_some, Option.map_none, e0]
                          go_simp
                          exact hK _ _ rfl (Same.refl _ _)
                        · intro ac wc hs hd hz hf hw K hK
                          have e0 : ac.eval (.tmp 117) = (.slice (some as_) c.spans.length cs_) := hw 3 rfl
                          have e1 : ac.eval (.tmp 118) = (.int .i64 k) := hw 4 rfl
                          clear hd hz hf hw
                          simp only [Region.wanted, if_true, Oper.wp, execOp, resolve, List.map_toArray, List.map_cons, List.map_nil, Option.map_some, Option.map_none, e0, e1]
                          go_simp
                          exact hK _ _ rfl (Same.refl _ _)
                        · intro ac wc hs hd hz hf hw K hK
                          have e0 : ac.eval (.tmp 119) = (.pointer (some (as_.add (k * 2)))) := hw 5 rfl
                          have m0 : wc.cell? (as_.add (k * 2)) = some (.string (str s1)) := hs.cell (p := (as_.add (k * 2))) trivial f0_
                          have m1 : wc.cell? ⟨(as_.add (k * 2)).block, (as_.add (k * 2)).off + 1, none⟩ = some (.string (str s2)) := hs.cell (p := ⟨(as_.add (k * 2)).block, (as_.add (k * 2)).off + 1, none⟩) trivial f1_
                          clear hd hz hf hw
                          simp only [Region.wanted, if_true, Oper.wp, execOp, resolve, List.map_toArray, List.map_cons, List.map_nil, Option.map_some, Option.map_none, e0]
                          go_simp
                          exact hK _ _ rfl (Same.refl _ _)
                        · intro ac wc hs hd hz hf hw K hK
                          have e0 : ac.eval (.tmp 6) = (.pointer (some ⟨g6, 0, none⟩)) := hf 6 rfl
                          clear hd hz hf hw
                          simp only [Region.wanted, if_true, Oper.wp, execOp, resolve, List.map_toArray, List.map_cons, List.map_nil, Option.map_some, Option.map_none, e0]
                          go_simp
                          exact hK _ _ rfl (Same.refl _ _)
                        · intro ac wc hs hd hz hf hw K hK
                          have e0 : ac.eval (.tmp 121) = (.pointer (some ⟨g6, 8, none⟩)) := hw 7 rfl
                          have m0 : wc.cell? ⟨g6, 8, none⟩ = some (.int .i64 c.at_.wall) := hs.cell (p := ⟨g6, 8, none⟩) trivial c8
                          have m1 : wc.cell? ⟨g6, 9, none⟩ = some (.int .i64 c.at_.tie) := hs.cell (p := ⟨g6, 9, none⟩) trivial c9
                          clear hd hz hf hw
                          simp only [Region.wanted, if_true, Oper.wp, execOp, resolve, List.map_toArray, List.map_cons, List.map_nil, Option.map_some, Option.map_none, e0]
                          go_simp
                          exact hK _ _ rfl (Same.refl _ _)
                        · intro ac wc hs hd hz hf hw K hK
                          have e0 : ac.eval (.tmp 115) = (.slice G0 Q2.cells.length g0_) := hw 1 rfl
                          have e1 : ac.eval (.tmp 120) = (.agg #[.string (str s1), .string (str s2)]) := hw 6 rfl
                          have e2 : ac.eval (.tmp 122) = (stV c.at_) := hw 8 rfl
                          clear hd hz hf hw
                          simp only [Region.wanted, if_true, Oper.wp, execOp, resolve, List.map_toArray, List.map_cons, List.map_nil, Option.map_some, Option.map_none, e0, e1, e2]
                          go_simp
                          refine (gb wc hs).mono ?_
                          rintro e wd ⟨rfl, hs2⟩
                          exact hK _ _ rfl hs2
                        · intro ac wc hs hd hz hf hw K hK
                          have e0 : ac.eval (.tmp 123) = (.tuple #[lckV lk, .bool false]) := hw 9 rfl
                          clear hd hz hf hw
                          simp only [Region.wanted, if_true, Oper.wp, execOp, resolve, List.map_toArray, List.map_cons, List.map_nil, Option.map_some, Option.map_none, e0]
                          go_simp
                          exact hK _ _ rfl (Same.refl _ _)
                        · intro ac wc hs hd hz hf hw K hK
                          have e0 : ac.eval (.tmp 113) = (.tuple #[lckV lk, .bool false]) := hw 10 rfl
                          clear hd hz hf hw
                          simp only [Region.wanted, if_true, Oper.wp, execOp, resolve, List.map_toArray, List.map_cons, List.map_nil, Option.map_some, Option.map_none, e0]
                          go_simp
                          exact hK _ _ rfl (Same.refl _ _)
                        · intro ac wc hs hd hz hf hw K hK
                          have e0 : ac.eval (.tmp 113) = (.tuple #[lckV lk, .bool false]) := hw 10 rfl
                          clear hd hz hf hw
                          simp only [Region.wanted, if_true, Oper.wp, execOp, resolve, List.map_toArray, List.map_cons, List.map_nil, Option.map_some, Option.map_none, e0]
                          go_simp
                          exact hK _ _ rfl (Same.refl _ _)
                        · intro ac wc hs hd hz hf hw K hK
                          clear hd hz hf hw
                          simp only [Region.wanted, if_true, Oper.wp, execOp, resolve, List.map_toArray, List.map_cons, List.map_nil, Option.map_some, Option.map_none]
                          go_simp
                          exact hK _ _ ⟨_, rfl, hs.size, Row.new _ _ (lckCs Lck.zero)⟩ ((Same.refl _ _).alloc _)
                      · intro vs wR hvl hvp hsR
                        rcases vs with _ | ⟨z0, _ | ⟨z1, _ | ⟨z2, _ | ⟨z3, _ | ⟨z4, _ | ⟨z5, _ | ⟨z6, _ | ⟨z7, _ | ⟨z8, _ | ⟨z9, _ | ⟨z10, _ | ⟨z11, _ | ⟨z12, _ | ⟨z13, _ | ⟨zz, zr⟩⟩⟩⟩⟩⟩⟩⟩⟩⟩⟩⟩⟩⟩⟩
                        rotate_right 1
                        · simp at hvl
                        · simp at hvl
                        · simp at hvl
                        · simp at hvl
                        · simp at hvl
                        · simp at hvl
                        · simp at hvl
                        · simp at hvl
                        · simp at hvl
                        · simp at hvl
                        · simp at hvl
                        · simp at hvl
                        · simp at hvl
                        · simp at hvl
                        · simp at hvl
                        · obtain rfl : z0 = (.pointer (some ⟨g7, 6, none⟩)) := hvp 0 (by omega)
                          obtain rfl : z1 = (.slice G0 Q2.cells.length g0_) := hvp 1 (by omega)
                          obtain rfl : z2 = (.pointer (some ⟨g6, 12, none⟩)) := hvp 2 (by omega)
                          obtain rfl : z3 = (.slice (some as_) c.spans.length cs_) := hvp 3 (by omega)
                          obtain rfl : z4 = (.int .i64 k) := hvp 4 (by omega)
                          obtain rfl : z5 = (.pointer (some (as_.add (k * 2)))) := hvp 5 (by omega)
                          obtain rfl : z6 = (.agg #[.string (str s1), .string (str s2)]) := hvp 6 (by omega)
                          obtain rfl : z7 = (.pointer (some ⟨g6, 8, none⟩)) := hvp 7 (by omega)
                          obtain rfl : z8 = (stV c.at_) := hvp 8 (by omega)
                          obtain rfl : z9 = (.tuple #[lckV lk, .bool false]) := hvp 9 (by omega)
                          obtain rfl : z10 = (.tuple #[lckV lk, .bool false]) := hvp 10 (by omega)
                          obtain rfl : z11 = (lckV lk) := hvp 11 (by omega)
                          obtain rfl : z12 = (.bool false) := hvp 12 (by omega)
                          have hxl : (⟨fun v w => ∃ g, v = .pointer (some ⟨g, 0, none⟩) ∧ wr.heap.size ≤ g ∧ Row w g 30 (lckCs Lck.zero), fun _ _ _ ⟨g, h1, h2, h3⟩ k => ⟨g, h1, h2, h3.keep k trivial⟩⟩ : SP).p z13 wR := hvp 13 (by omega)
                          clear hvl hvp
                          simp only [putAll, Act.put, List.setIfInBounds_toArray, List.set_cons_succ, List.set_cons_zero, List.take_succ_cons, List.take_zero, List.drop_succ_cons, List.drop_zero, List.eraseIdx_cons_succ, List.eraseIdx_cons_zero]
                          obtain ⟨g9, rfl, hg9, r9⟩ := hxl
                          have z9 := r9.lt
                          have R9 := Lib.hid r9
                          have l0 := r9.cell 0
                          have l1 := r9.cell 1
                          have l2 := r9.cell 2
                          have l3 := r9.cell 3
                          have l4 := r9.cell 4
                          have l5 := r9.cell 5
                          have l6 := r9.cell 6
                          have l7 := r9.cell 7
                          have l8 := r9.cell 8
                          simp only [lckCs, Lck.zero, List.getElem?_cons_zero, List.getElem?_cons_succ] at l0 l1 l2 l3 l4 l5 l6 l7 l8
                          have h0 := r9.frozen 0
                          have h1 := r9.frozen 1
                          have h2 := r9.frozen 2
                          have h3 := r9.frozen 3
                          have h4 := r9.frozen 4
                          have h5 := r9.frozen 5
                          have h6 := r9.frozen 6
                          have h7 := r9.frozen 7
                          have h8 := r9.frozen 8
                          clear r9
                          go_wp2
                          go_meet
                          exact ⟨rfl, Same.sets' (by omega) (lckCs lk) 0 hsR⟩
                      · intro vs wR hvl hvp hsR
                        rcases vs with _ | ⟨z0, _ | ⟨z1, _ | ⟨z2, _ | ⟨z3, _ | ⟨z4, _ | ⟨z5, _ | ⟨z6, _ | ⟨z7, _ | ⟨z8, _ | ⟨z9, _ | ⟨z10, _ | ⟨z11, _ | ⟨z13, _ | ⟨zz, zr⟩⟩⟩⟩⟩⟩⟩⟩⟩⟩⟩⟩⟩⟩
                        rotate_right 1
                        · simp at hvl
                        · simp at hvl
                        · simp at hvl
                        · simp at hvl
                        · simp at hvl
                        · simp at hvl
                        · simp at hvl
                        · simp at hvl
                        · simp at hvl
                        · simp at hvl
                        · simp at hvl
                        · simp at hvl
                        · simp at hvl
                        · simp at hvl
                        · obtain rfl : z0 = (.pointer (some ⟨g7, 6, none⟩)) := hvp 0 (by omega)
                          obtain rfl : z1 = (.slice G0 Q2.cells.length g0_) := hvp 1 (by omega)
                          obtain rfl : z2 = (.pointer (some ⟨g6, 12, none⟩)) := hvp 2 (by omega)
                          obtain rfl : z3 = (.slice (some as_) c.spans.length cs_) := hvp 3 (by omega)
                          obtain rfl : z4 = (.int .i64 k) := hvp 4 (by omega)
                          obtain rfl : z5 = (.pointer (some (as_.add (k * 2)))) := hvp 5 (by omega)
                          obtain rfl : z6 = (.agg #[.string (str s1), .string (str s2)]) := hvp 6 (by omega)
                          obtain rfl : z7 = (.pointer (some ⟨g6, 8, none⟩)) := hvp 7 (by omega)
                          obtain rfl : z8 = (stV c.at_) := hvp 8 (by omega)
                          obtain rfl : z9 = (.tuple #[lckV lk, .bool false]) := hvp 9 (by omega)
                          obtain rfl : z10 = (.tuple #[lckV lk, .bool false]) := hvp 10 (by omega)
                          obtain rfl : z11 = (lckV lk) := hvp 11 (by omega)
                          have hxl : (⟨fun v w => ∃ g, v = .pointer (some ⟨g, 0, none⟩) ∧ wr.heap.size ≤ g ∧ Row w g 30 (lckCs Lck.zero), fun _ _ _ ⟨g, h1, h2, h3⟩ k => ⟨g, h1, h2, h3.keep k trivial⟩⟩ : SP).p z13 wR := hvp 12 (by omega)
                          clear hvl hvp
                          simp only [putAll, Act.put, List.setIfInBounds_toArray, List.set_cons_succ, List.set_cons_zero, List.take_succ_cons, List.take_zero, List.drop_succ_cons, List.drop_zero, List.eraseIdx_cons_succ, List.eraseIdx_cons_zero]
                          obtain ⟨g9, rfl, hg9, r9⟩ := hxl
                          have z9 := r9.lt
                          have R9 := Lib.hid r9
                          have l0 := r9.cell 0
                          have l1 := r9.cell 1
                          have l2 := r9.cell 2
                          have l3 := r9.cell 3
                          have l4 := r9.cell 4
                          have l5 := r9.cell 5
                          have l6 := r9.cell 6
                          have l7 := r9.cell 7
                          have l8 := r9.cell 8
                          simp only [lckCs, Lck.zero, List.getElem?_cons_zero, List.getElem?_cons_succ] at l0 l1 l2 l3 l4 l5 l6 l7 l8
                          have h0 := r9.frozen 0
                          have h1 := r9.frozen 1
                          have h2 := r9.frozen 2
                          have h3 := r9.frozen 3
                          have h4 := r9.frozen 4
                          have h5 := r9.frozen 5
                          have h6 := r9.frozen 6
                          have h7 := r9.frozen 7
                          have h8 := r9.frozen 8
                          clear r9
                          go_wp2
                          go_meet
                          exact ⟨rfl, Same.sets' (by omega) (lckCs lk) 0 hsR⟩
                    case rest =>
                      obtain ⟨rfl, hS1⟩ := hcut
                      have HN := Lib.hid (OwnR.keepAll HN.out hS1)
                      have HSn := Lib.hid (HSn.out.trans hS1)
                      have HP := Lib.hid (HP.out.keep hS1 trivial)
                      have HR := Lib.hid (HR.out.keep hS1 trivial)
                      have HC := Lib.hid (HC.out.keep hS1 trivial)
                      have HW := Lib.hid (HW.out.keepAll hS1)
                      have HS := Lib.hid (HS.out.trans hS1)
                      have HE := Lib.hid (OwnR.keepAll HE.out hS1)
                      have f0_ := hS1.cell (p := (as_.add (k * 2))) trivial f0_
                      have f1_ := hS1.cell (p := ⟨(as_.add (k * 2)).block, (as_.add (k * 2)).off + 1, none⟩) trivial f1_
                      clear hS1 gb p6 c8 c9 c12
                      have p6 : wc.cell? ⟨g7, 6, none⟩ = some (.slice G0 Q2.cells.length g0_) := HP.out.cell 6
                      have c8 : wc.cell? ⟨g6, 8, none⟩ = some (.int .i64 c.at_.wall) := HC.out.cell 8
                      have c9 : wc.cell? ⟨g6, 9, none⟩ = some (.int .i64 c.at_.tie) := HC.out.cell 9
                      have c12 : wc.cell? ⟨g6, 12, none⟩ = some (.slice (some as_) c.spans.length cs_) := HC.out.cell 12
                      have gc := fun W (hW : Same (fun _ => True) wc W) => refscan_any (.slice G0 Q2.cells.length g0_) Q2.cells s1 s2 c.at_ 10000 _ W (HW.out.reads.cells.keepAll hW) (by have := Hf2.out.cells.len (by omega); omega)
                      rw [scan_all (by have := Hf2.out.cells.few.1; omega), ← HL.out] at gc
                      have hbn : BN ≤ wc.heap.size := by rw [HBN.out]; exact HSn.out.size
                      go_upto_region 25 with (fail)
                      go_cut [14, 15] from 126 to 138 (fun v14 v15 wx => v15 = .int .i64 0 ∧ OwnP wx BN v14 L ∧ Same (fun _ => True) wc wx)
                      case first =>
                        refine wp_region_tail_d (L := [.eq (.pointer (some ⟨g7, 6, none⟩)), .eq (.slice G0 Q2.cells.length g0_), .eq (.pointer (some ⟨g6, 12, none⟩)), .eq (.slice (some as_) c.spans.length cs_), .eq (.int .i64 k), .eq (.pointer (some (as_.add (k * 2)))), .eq (.agg #[.string (str s1), .string (str s2)]), .eq (.pointer (some ⟨g6, 8, none⟩)), .eq (stV c.at_), .of ⟨fun v w => ∃ u, v = .tuple #[u, .int .i64 0] ∧ OwnP w BN u L, fun _ _ _ ⟨u, h1, h2⟩ k => ⟨u, h1, h2.keepAll k⟩⟩, .of ⟨fun v w => ∃ u, v = .tuple #[u, .int .i64 0] ∧ OwnP w BN u L, fun _ _ _ ⟨u, h1, h2⟩ k => ⟨u, h1, h2.keepAll k⟩⟩, .of ⟨fun u w => OwnP w BN u L, fun _ _ _ h k => h.keepAll k⟩, .eq (.int .i64 0)]) 13 12 (by omega) (by kernel_rfl) (by kernel_rfl) rfl rfl rfl rfl rfl rfl ?_ ?_ ?_
                        · refine ⟨?_, ?_, ?_, ?_, ?_, ?_, ?_, ?_, ?_, ?_, ?_, ?_, ?_, trivial⟩
                          · intro ac wc hs hd hz hf hw K hK
                            have e0 : ac.eval (.tmp 7) = (.pointer (some ⟨g7, 0, none⟩)) := hf 7 rfl
                            clear hd hz hf hw
                            simp only [Region.wanted, if_true, Oper.wp, execOp, resolve, List.map_toArray, List.map_cons, List.map_nil, Option.map_some, Option.map_none, e0]
                            go_simp
                            exact hK _ _ rfl (Same.refl _ _)
                          · intro ac wc hs hd hz hf hw K hK
                            have e0 : ac.eval (.tmp 127) = (.pointer (some ⟨g7, 6, none⟩)) := hw 0 rfl
                            have m0 : wc.cell? ⟨g7, 6, none⟩ = some (.slice G0 Q2.cells.length g0_) := hs.cell (p := ⟨g7, 6, none⟩) trivial p6
                            clear hd hz hf hw
                            simp only [Region.wanted, if_true, Oper.wp, execOp, resolve, List.map_toArray, List.map_cons, List.map_nil, Option.map_some, Option.map_none, e0]
                            go_simp
                            exact hK _ _ rfl (Same.refl _ _)
                          · intro ac wc hs hd hz hf hw K hK
                            have e0 : ac.eval (.tmp 6) = (.pointer (some ⟨g6, 0, none⟩)) := hf 6 rfl
                            clear hd hz hf hw
                            simp only [Region.wanted, if_true, Oper.wp, execOp, resolve, List.map_toArray, List.map_cons, List.map_nil, Option.map_some, Option.map_none, e0]
                            go_simp
                            exact hK _ _ rfl (Same.refl _ _)
                          · intro ac wc hs hd hz hf hw K hK
                            have e0 : ac.eval (.tmp 129) = (.pointer (some ⟨g6, 12, none⟩)) := hw 2 rfl
                            have m0 : wc.cell? ⟨g6, 12, none⟩ = some (.slice (some as_) c.spans.length cs_) := hs.cell (p := ⟨g6, 12, none⟩) trivial c12
                            clear hd hz hf hw
                            simp only [Region.wanted, if_true, Oper.wp, execOp, resolve, List.map_toArray, List.map_cons, List.map_nil, Option.map_some, Option.map_none, e0]
                            go_simp
                            exact hK _ _ rfl (Same.refl _ _)
                          · intro ac wc hs hd hz hf hw K hK
                            have e0 : ac.eval (.tmp 11) = (.int .i64 k) := hf 11 rfl
                            clear hd hz hf hw
                            simp only [Region.wanted, if_true, Oper.wp, execOp, resolve, List.map_toArray, List.map_cons, List.map_nil, Option.map_some, Option.map_none, e0]
                            go_simp
                            exact hK _ _ rfl (Same.refl _ _)
                          · intro ac wc hs hd hz hf hw K hK
                            have e0 : ac.eval (.tmp 130) = (.slice (some as_) c.spans.length cs_) := hw 3 rfl
                            have e1 : ac.eval (.tmp 131) = (.int .i64 k) := hw 4 rfl
                            clear hd hz hf hw
                            simp only [Region.wanted, if_true, Oper.wp, execOp, resolve, List.map_toArray, List.map_cons, List.map_nil, Option.map_some, Option.map_none, e0, e1]
                            go_simp
                            exact hK _ _ rfl (Same.refl _ _)
                          · intro ac wc hs hd hz hf hw K hK
                            have e0 : ac.eval (.tmp 132) = (.pointer (some (as_.add (k * 2)))) := hw 5 rfl
                            have m0 : wc.cell? (as_.add (k * 2)) = some (.string (str s1)) := hs.cell (p := (as_.add (k * 2))) trivial f0_
                            have m1 : wc.cell? ⟨(as_.add (k * 2)).block, (as_.add (k * 2)).off + 1, none⟩ = some (.string (str s2)) := hs.cell (p := ⟨(as_.add (k * 2)).block, (as_.add (k * 2)).off + 1, none⟩) trivial f1_
                            clear hd hz hf hw
                            simp only [Region.wanted, if_true, Oper.wp, execOp, resolve, List.map_toArray, List.map_cons, List.map_nil, Option.map_some, Option.map_none, e0]
                            go_simp
                            exact hK _ _ rfl (Same.refl _ _)
                          · intro ac wc hs hd hz hf hw K hK
                            have e0 : ac.eval (.tmp 6) = (.pointer (some ⟨g6, 0, none⟩)) := hf 6 rfl
                            clear hd hz hf hw
                            simp only [Region.wanted, if_true, Oper.wp, execOp, resolve, List.map_toArray, List.map_cons, List.map_nil, Option.map_some, Option.map_none, e0]
                            go_simp
                            exact hK _ _ rfl (Same.refl _ _)
                          · intro ac wc hs hd hz hf hw K hK
                            have e0 : ac.eval (.tmp 134) = (.pointer (some ⟨g6, 8, none⟩)) := hw 7 rfl
                            have m0 : wc.cell? ⟨g6, 8, none⟩ = some (.int .i64 c.at_.wall) := hs.cell (p := ⟨g6, 8, none⟩) trivial c8
                            have m1 : wc.cell? ⟨g6, 9, none⟩ = some (.int .i64 c.at_.tie) := hs.cell (p := ⟨g6, 9, none⟩) trivial c9
                            clear hd hz hf hw
                            simp only [Region.wanted, if_true, Oper.wp, execOp, resolve, List.map_toArray, List.map_cons, List.map_nil, Option.map_some, Option.map_none, e0]
                            go_simp
                            exact hK _ _ rfl (Same.refl _ _)
                          · intro ac wc hs hd hz hf hw K hK
                            have e0 : ac.eval (.tmp 128) = (.slice G0 Q2.cells.length g0_) := hw 1 rfl
                            have e1 : ac.eval (.tmp 133) = (.agg #[.string (str s1), .string (str s2)]) := hw 6 rfl
                            have e2 : ac.eval (.tmp 135) = (stV c.at_) := hw 8 rfl
                            clear hd hz hf hw
                            simp only [Region.wanted, if_true, Oper.wp, execOp, resolve, List.map_toArray, List.map_cons, List.map_nil, Option.map_some, Option.map_none, e0, e1, e2]
                            go_simp
                            refine (gc wc hs).mono ?_
                            rintro e wd ⟨u, rfl, hown, hS⟩
                            exact hK _ _ ⟨u, rfl, hown.lower (by have := hs.size; omega)⟩ hS
                          · intro ac wc hs hd hz hf hw K hK
                            have p0 : (⟨fun v w => ∃ u, v = .tuple #[u, .int .i64 0] ∧ OwnP w BN u L, fun _ _ _ ⟨u, h1, h2⟩ k => ⟨u, h1, h2.keepAll k⟩⟩ : SP).p (ac.eval (.tmp 136)) wc := hw 9 rfl
                            obtain ⟨u0, e0⟩ : ∃ u, ac.eval (.tmp 136) = u := ⟨_, rfl⟩
                            rw [e0] at p0
                            clear hd hz hf hw
                            simp only [Region.wanted, if_true, Oper.wp, execOp, resolve, List.map_toArray, List.map_cons, List.map_nil, Option.map_some, Option.map_none, e0]
                            go_simp
                            exact hK _ _ p0 (Same.refl _ _)
                          · intro ac wc hs hd hz hf hw K hK
                            have p0 : (⟨fun v w => ∃ u, v = .tuple #[u, .int .i64 0] ∧ OwnP w BN u L, fun _ _ _ ⟨u, h1, h2⟩ k => ⟨u, h1, h2.keepAll k⟩⟩ : SP).p (ac.eval (.tmp 126)) wc := hw 10 rfl
                            obtain ⟨u0, e0⟩ : ∃ u, ac.eval (.tmp 126) = u := ⟨_, rfl⟩
                            rw [e0] at p0
                            clear hd hz hf hw
                            simp only [Region.wanted, if_true, Oper.wp, execOp, resolve, List.map_toArray, List.map_cons, List.map_nil, Option.map_some, Option.map_none, e0]
                            go_simp
                            obtain ⟨u, e, hu⟩ := p0
                            subst e
                            go_simp
                            exact hK _ _ hu (Same.refl _ _)
                          · intro ac wc hs hd hz hf hw K hK
                            have p0 : (⟨fun v w => ∃ u, v = .tuple #[u, .int .i64 0] ∧ OwnP w BN u L, fun _ _ _ ⟨u, h1, h2⟩ k => ⟨u, h1, h2.keepAll k⟩⟩ : SP).p (ac.eval (.tmp 126)) wc := hw 10 rfl
                            obtain ⟨u0, e0⟩ : ∃ u, ac.eval (.tmp 126) = u := ⟨_, rfl⟩
                            rw [e0] at p0
                            clear hd hz hf hw
                            simp only [Region.wanted, if_true, Oper.wp, execOp, resolve, List.map_toArray, List.map_cons, List.map_nil, Option.map_some, Option.map_none, e0]
                            go_simp
                            obtain ⟨u, e, hu⟩ := p0
                            subst e
                            go_simp
                            exact hK _ _ rfl (Same.refl _ _)
                        · intro vs wR hvl hvp hsR
                          rcases vs with _ | ⟨z0, _ | ⟨z1, _ | ⟨z2, _ | ⟨z3, _ | ⟨z4, _ | ⟨z5, _ | ⟨z6, _ | ⟨z7, _ | ⟨z8, _ | ⟨z9, _ | ⟨z10, _ | ⟨z11, _ | ⟨z12, _ | ⟨zz, zr⟩⟩⟩⟩⟩⟩⟩⟩⟩⟩⟩⟩⟩⟩
                          rotate_right 1
                          · simp at hvl
                          · simp at hvl
                          · simp at hvl
                          · simp at hvl
                          · simp at hvl
                          · simp at hvl
                          · simp at hvl
                          · simp at hvl
                          · simp at hvl
                          · simp at hvl
                          · simp at hvl
                          · simp at hvl
                          · simp at hvl
                          · simp at hvl
                          · obtain rfl : z0 = (.pointer (some ⟨g7, 6, none⟩)) := hvp 0 (by omega)
                            obtain rfl : z1 = (.slice G0 Q2.cells.length g0_) := hvp 1 (by omega)
                            obtain rfl : z2 = (.pointer (some ⟨g6, 12, none⟩)) := hvp 2 (by omega)
                            obtain rfl : z3 = (.slice (some as_) c.spans.length cs_) := hvp 3 (by omega)
                            obtain rfl : z4 = (.int .i64 k) := hvp 4 (by omega)
                            obtain rfl : z5 = (.pointer (some (as_.add (k * 2)))) := hvp 5 (by omega)
                            obtain rfl : z6 = (.agg #[.string (str s1), .string (str s2)]) := hvp 6 (by omega)
                            obtain rfl : z7 = (.pointer (some ⟨g6, 8, none⟩)) := hvp 7 (by omega)
                            obtain rfl : z8 = (stV c.at_) := hvp 8 (by omega)
                            have ht136 : (⟨fun v w => ∃ u, v = .tuple #[u, .int .i64 0] ∧ OwnP w BN u L, fun _ _ _ ⟨u, h1, h2⟩ k => ⟨u, h1, h2.keepAll k⟩⟩ : SP).p z9 wR := hvp 9 (by omega)
                            have ht126 : (⟨fun v w => ∃ u, v = .tuple #[u, .int .i64 0] ∧ OwnP w BN u L, fun _ _ _ ⟨u, h1, h2⟩ k => ⟨u, h1, h2.keepAll k⟩⟩ : SP).p z10 wR := hvp 10 (by omega)
                            have ht137 : (⟨fun u w => OwnP w BN u L, fun _ _ _ h k => h.keepAll k⟩ : SP).p z11 wR := hvp 11 (by omega)
                            obtain rfl : z12 = (.int .i64 0) := hvp 12 (by omega)
                            clear hvl hvp
                            simp only [putAll, Act.put, List.setIfInBounds_toArray, List.set_cons_succ, List.set_cons_zero, List.take_succ_cons, List.take_zero, List.drop_succ_cons, List.drop_zero, List.eraseIdx_cons_succ, List.eraseIdx_cons_zero]
                            obtain ⟨u8, rfl, hu8⟩ := ht126
                            go_wp2
                            go_meet
                            exact ⟨rfl, ht137, hsR⟩
                        · intro vs wR hvl hvp hsR
                          rcases vs with _ | ⟨z0, _ | ⟨z1, _ | ⟨z2, _ | ⟨z3, _ | ⟨z4, _ | ⟨z5, _ | ⟨z6, _ | ⟨z7, _ | ⟨z8, _ | ⟨z9, _ | ⟨z10, _ | ⟨z11, _ | ⟨zz, zr⟩⟩⟩⟩⟩⟩⟩⟩⟩⟩⟩⟩⟩
                          rotate_right 1
                          · simp at hvl
                          · simp at hvl
                          · simp at hvl
                          · simp at hvl
                          · simp at hvl
                          · simp at hvl
                          · simp at hvl
                          · simp at hvl
                          · simp at hvl
                          · simp at hvl
                          · simp at hvl
                          · simp at hvl
                          · simp at hvl
                          · obtain rfl : z0 = (.pointer (some ⟨g7, 6, none⟩)) := hvp 0 (by omega)
                            obtain rfl : z1 = (.slice G0 Q2.cells.length g0_) := hvp 1 (by omega)
                            obtain rfl : z2 = (.pointer (some ⟨g6, 12, none⟩)) := hvp 2 (by omega)
                            obtain rfl : z3 = (.slice (some as_) c.spans.length cs_) := hvp 3 (by omega)
                            obtain rfl : z4 = (.int .i64 k) := hvp 4 (by omega)
                            obtain rfl : z5 = (.pointer (some (as_.add (k * 2)))) := hvp 5 (by omega)
                            obtain rfl : z6 = (.agg #[.string (str s1), .string (str s2)]) := hvp 6 (by omega)
                            obtain rfl : z7 = (.pointer (some ⟨g6, 8, none⟩)) := hvp 7 (by omega)
                            obtain rfl : z8 = (stV c.at_) := hvp 8 (by omega)
                            have ht136 : (⟨fun v w => ∃ u, v = .tuple #[u, .int .i64 0] ∧ OwnP w BN u L, fun _ _ _ ⟨u, h1, h2⟩ k => ⟨u, h1, h2.keepAll k⟩⟩ : SP).p z9 wR := hvp 9 (by omega)
                            have ht126 : (⟨fun v w => ∃ u, v = .tuple #[u, .int .i64 0] ∧ OwnP w BN u L, fun _ _ _ ⟨u, h1, h2⟩ k => ⟨u, h1, h2.keepAll k⟩⟩ : SP).p z10 wR := hvp 10 (by omega)
                            have ht137 : (⟨fun u w => OwnP w BN u L, fun _ _ _ h k => h.keepAll k⟩ : SP).p z11 wR := hvp 11 (by omega)
                            clear hvl hvp
                            simp only [putAll, Act.put, List.setIfInBounds_toArray, List.set_cons_succ, List.set_cons_zero, List.take_succ_cons, List.take_zero, List.drop_succ_cons, List.drop_zero, List.eraseIdx_cons_succ, List.eraseIdx_cons_zero]
                            obtain ⟨u8, rfl, hu8⟩ := ht126
                            go_wp2
                            go_meet
                            exact ⟨rfl, ht137, hsR⟩
                      case rest =>
                        obtain ⟨rfl, hown, hS1⟩ := hcut
                        obtain ⟨M0, m0_, rfl, hm1, hm2⟩ := OwnP.form hown
                        unfold maxLen at hm2
                        have HM := Lib.hid hown
                        have HN := Lib.hid (OwnR.keepAll HN.out hS1)
                        have HSn := Lib.hid (HSn.out.trans hS1)
                        have hbn2 : BN ≤ wc.heap.size := by rw [HBN.out]; exact HSn.out.size
                        clear hown hS1 gc hbn p6 c8 c9 c12 f0_ f1_ HP HR HC HW HE
                        go_wp2_with (at_builtin; refine stopAt ?_)
                        unfold Hid
                        refine wpList_appR TP (fun _ => rfl) pairCs_one rfl (.tmp 144) (.tmp 145) rfl rfl rfl ((OwnR.wr HM.out).row fun _ => rfl) HN.out (by omega) (by simp only [maxLen]; omega) (by omega) ?_
                        intro v7 w7 hown7 hS7
                        have hge : ∀ q, q < BN → some q ≠ Value.ownBlock (.slice N0 (toldAll Q2.cells c.at_ (c.spans.take k)).length n0_) := fun q hq e => by have := (HN.out.lt q e.symm).1; omega
                        have HS7 := Lib.hid ((HSn.out).trans' hS7 fun q hq _ => hge q (by rw [HBN.out]; exact hq))
                        have H7 := Lib.hid hown7
                        clear hown7 hS7 hge
                        go_wp2
                        go_roundw
                        case rel => exact ⟨k + 1, by go_num, by have := Hkl.out; omega, by rw [Htt.out]; exact H7.out, HS7.out⟩
                        case measure => have := Hkl.out; simp [intOf]; omega
                  · obtain rfl : k = c.spans.length := by omega
                    obtain ⟨wp, rfl⟩ : ∃ wp : World, wp = wr := ⟨_, rfl⟩
                    have hN := HN.out
                    rw [List.take_length, Hh2.out.told] at hN
                    have heq : (toldAll Q2.cells c.at_ (List.take c.spans.length c.spans)).length = EQ.pairs.length := by rw [List.take_length, Hh2.out.told]
                    rw [heq]
                    have HN := Lib.hid hN
                    have Hall := Lib.hid (And.intro HP.out (And.intro HW.out (And.intro HR.out (And.intro HE.out HC.out))))
                    clear hN heq htk hn1
                    have r1_ : wp.cell? ⟨g8, 1, none⟩ = some (.slice D0 EQ.pairs.length d0_) := HR.out.cell 1
                    have c12 : wp.cell? ⟨g6, 12, none⟩ = some (.slice As c.spans.length cs_) := HC.out.cell 12
                    have hne := pair_ne2
                    go_wp2
                    clear r1_ c12
                    go_loopw [16] (fun v wr => ∃ m : Nat, v = .int .i64 m ∧ m ≤ EQ.pairs.length ∧ Same (fun _ => True) wp wr) (fun v _ => EQ.pairs.length - (intOf v).toNat)
                    case atStart => exact ⟨0, rfl, Nat.zero_le _, Same.refl _ _⟩
                    case round =>
                      obtain ⟨m, rfl, hm, hS1⟩ := hrel
                      have HSp := Lib.hid hS1
                      by_cases hml : m < EQ.pairs.length
                      · obtain ⟨ad1, h1_, -, v0_, v1_⟩ := SpanR.cells ((OwnR.wr (OwnR.keepAll HN.out hS1)).row fun _ => rfl) hml
                        obtain ⟨ad2, h2_, -, u0_, u1_⟩ := SpanR.cells ((OwnR.wr (OwnR.keepAll HE.out hS1)).row fun _ => rfl) hml
                        have r1_ : wr.cell? ⟨g8, 1, none⟩ = some (.slice D0 EQ.pairs.length d0_) := (HR.out.keep hS1 trivial).cell 1
                        subst h1_ h2_
                        have x1 : (0 : Int) ≤ (m : Int) := by omega
                        have x2 : (m : Int) < (EQ.pairs.length : Int) := by omega
                        generalize EQ.pairs[m] = pr at *
                        clear hS1
                        go_wp2
                        go_quiet (fail)
                        rename_i nq
                        have HS2 := Lib.hid (HSp.out.trans ((Same.refl (fun _ => True) _).drewN nq))
                        clear v0_ v1_ u0_ u1_ r1_
                        go_wp2
                        go_roundw
                        case rel => exact ⟨m + 1, by go_num, by omega, HS2.out⟩
                        case measure => simp [intOf]; omega
                      · obtain rfl : m = EQ.pairs.length := by omega
                        have r1_ : wr.cell? ⟨g8, 1, none⟩ = some (.slice D0 EQ.pairs.length d0_) := (HR.out.keep hS1 trivial).cell 1
                        clear hS1
                        go_wp2
                        go_roundw
                        case rel => exact ⟨i + 1, _, _, _, Q2, by go_num, by omega, by omega, HP.out.keep HSp.out trivial, HW.out.keepAll HSp.out, HR.out.keep HSp.out trivial, OwnR.keepAll HE.out HSp.out, HC.out.keep HSp.out trivial, Hh2.out, Hf2.out, HS.out.trans HSp.out⟩
                        case measure => simp [intOf]; omega
          · obtain rfl : i = l.length := by omega
            clear hS
            go_wp2
            go_ret
            exact ⟨rfl, HS.out⟩
end Go.Proofs.Ytoldelocfmpccaa
