/-
  The walk of ValueWrites.
-/
import Derived.Test.YtpbekhcogpkbpaaDoorVaKy
set_option linter.unusedSimpArgs false
set_option linter.unusedVariables false
namespace Go.Proofs.YtpbekhcogpkbpaaDoor
open Go.RowKit

set_option maxRecDepth 100000 in
set_option maxHeartbeats 4000000 in
theorem writes_long (v : Val) (r : Value) (b : List UInt8) (S : Nat → Prop) (w : World) (hr : By w S r b) (hE : EnvT w) (hn : I64 v.n) (hl : 1024 < b.length) :
    Calls Tryd.prog 3 #[r, valV v] w (BoolP true w) := by
  obtain ⟨A, cap, rfl, hc1, hc2, -⟩ := id hr
  obtain ⟨N, hN⟩ : ∃ N, N = b.length := ⟨_, rfl⟩
  have hrl := hr.mono (S' := fun k => k < w.heap.size) fun k h _ => h
  rw [← hN] at hc1 hrl hl ⊢
  have HV : Hid (By w (fun k => k < w.heap.size) (.slice A N cap) b) := Lib.hid hrl
  have HN := Lib.hid hN
  have hE1 := hE.keepAll ((Same.refl (fun _ => True) w).alloc (.cells #[.int .i64 v.kind, .int .i64 v.n, .string (str v.s)] 24))
  have hbg := begun_any (w.alloc (.cells #[.int .i64 v.kind, .int .i64 v.n, .string (str v.s)] 24)) hE1
  have HE := Lib.hid hE1
  unfold BoolP at hbg ⊢
  clear hE hE1 hr hrl hN
  go_enter Tryd.func3, Tryd.ntmps3
  go_wp2_with (go_at_call 8; refine stopAt ?_)
  unfold Hid
  refine hbg.mono ?_
  rintro e w1 ⟨rfl, hs1⟩
  have hrow := (val_new w v).keep hs1 trivial
  obtain ⟨c0, c1, c2, -, -, -⟩ := val_cells hrow
  have hlb := hrow.lt
  have HR := Lib.hid hrow
  have HE1 := Lib.hid (HE.out.keepAll hs1)
  have HS1 := Lib.hid (((Same.refl (fun _ => True) w).alloc (.cells #[.int .i64 v.kind, .int .i64 v.n, .string (str v.s)] 24)).trans hs1)
  clear hbg hs1 hrow
  go_wp2
  go_ret
  exact ⟨rfl, HS1.out⟩
set_option maxRecDepth 100000 in
set_option maxHeartbeats 4000000 in
theorem writes_heavy (v : Val) (r : Value) (b : List UInt8) (S : Nat → Prop) (w : World) (hr : By w S r b) (hE : EnvT w) (hn : I64 v.n) (hl : ¬ 1024 < b.length) (hlt : decide (v.s.length ≤ 1000) = false) :
    Calls Tryd.prog 3 #[r, valV v] w (BoolP true w) := by
  obtain ⟨A, cap, rfl, hc1, hc2, -⟩ := id hr
  obtain ⟨N, hN⟩ : ∃ N, N = b.length := ⟨_, rfl⟩
  have hrl := hr.mono (S' := fun k => k < w.heap.size) fun k h _ => h
  rw [← hN] at hc1 hrl hl ⊢
  have HV : Hid (By w (fun k => k < w.heap.size) (.slice A N cap) b) := Lib.hid hrl
  have HN := Lib.hid hN
  have hE1 := hE.keepAll ((Same.refl (fun _ => True) w).alloc (.cells #[.int .i64 v.kind, .int .i64 v.n, .string (str v.s)] 24))
  have hbg := begun_any (w.alloc (.cells #[.int .i64 v.kind, .int .i64 v.n, .string (str v.s)] 24)) hE1
  have HE := Lib.hid hE1
  unfold BoolP at hbg ⊢
  clear hE hE1 hr hrl hN
  go_enter Tryd.func3, Tryd.ntmps3
  go_wp2_with (go_at_call 8; refine stopAt ?_)
  unfold Hid
  refine hbg.mono ?_
  rintro e w1 ⟨rfl, hs1⟩
  have hrow := (val_new w v).keep hs1 trivial
  obtain ⟨c0, c1, c2, -, -, -⟩ := val_cells hrow
  have hlb := hrow.lt
  have HR := Lib.hid hrow
  have HE1 := Lib.hid (HE.out.keepAll hs1)
  have HS1 := Lib.hid (((Same.refl (fun _ => True) w).alloc (.cells #[.int .i64 v.kind, .int .i64 v.n, .string (str v.s)] 24)).trans hs1)
  clear hbg hs1 hrow
  have hli := fun W => light_any v W
  rw [hlt] at hli
  unfold BoolP at hli
  go_wp2_with (go_at_call 9; refine stopAt ?_)
  unfold Hid
  refine (hli _).mono ?_
  rintro e w2 ⟨rfl, hs2⟩
  have HS2 := Lib.hid (HS1.out.trans hs2)
  have HE2 := Lib.hid (HE1.out.keepAll hs2)
  have hrow2 : Row w2 w.heap.size 24 (valCs v) := HR.out.keep hs2 trivial
  clear HR hs2 c0 c1 c2 hlb
  have HR := Lib.hid hrow2
  clear hrow2
  go_wp2
  go_ret
  exact ⟨rfl, HS2.out⟩
set_option maxRecDepth 100000 in
set_option maxHeartbeats 4000000 in
theorem writes_main (v : Val) (r : Value) (b : List UInt8) (S : Nat → Prop) (w : World) (hr : By w S r b) (hE : EnvT w) (hn : I64 v.n) (hl : ¬ 1024 < b.length) (hlt : decide (v.s.length ≤ 1000) = true) :
    Calls Tryd.prog 3 #[r, valV v] w (BoolP true w) := by
  have hke := fun u S W (h : By W S u b) => key_any v u b S W h (by omega) hn
  have hpl := fun u S W (h : By W S u b) => plain_any v u b S W h (by omega) hn
  have hrk := fun u S W (h : By W S u b) => refkey_any v u b S W h (by omega) hn
  have hrp := fun u S W (h : By W S u b) => refplain_any v u b S W h (by omega) hn
  obtain ⟨KX, hKX⟩ : ∃ K, K = b ++ keyL v := ⟨_, rfl⟩
  obtain ⟨PX, hPX⟩ : ∃ K, K = b ++ plainL v := ⟨_, rfl⟩
  simp only [← hKX] at hke hrk
  simp only [← hPX] at hpl hrp
  unfold OwnPost at hke hpl hrk hrp
  clear hKX hPX
  obtain ⟨A, cap, rfl, hc1, hc2, -⟩ := id hr
  obtain ⟨N, hN⟩ : ∃ N, N = b.length := ⟨_, rfl⟩
  have hrl := hr.mono (S' := fun k => k < w.heap.size) fun k h _ => h
  rw [← hN] at hc1 hrl hl ⊢
  have HV : Hid (By w (fun k => k < w.heap.size) (.slice A N cap) b) := Lib.hid hrl
  have HN := Lib.hid hN
  have hE1 := hE.keepAll ((Same.refl (fun _ => True) w).alloc (.cells #[.int .i64 v.kind, .int .i64 v.n, .string (str v.s)] 24))
  have hbg := begun_any (w.alloc (.cells #[.int .i64 v.kind, .int .i64 v.n, .string (str v.s)] 24)) hE1
  have HE := Lib.hid hE1
  unfold BoolP at hbg ⊢
  clear hE hE1 hr hrl hN
  go_enter Tryd.func3, Tryd.ntmps3
  go_wp2_with (go_at_call 8; refine stopAt ?_)
  unfold Hid
  refine hbg.mono ?_
  rintro e w1 ⟨rfl, hs1⟩
  have hrow := (val_new w v).keep hs1 trivial
  obtain ⟨c0, c1, c2, -, -, -⟩ := val_cells hrow
  have hlb := hrow.lt
  have HR := Lib.hid hrow
  have HE1 := Lib.hid (HE.out.keepAll hs1)
  have HS1 := Lib.hid (((Same.refl (fun _ => True) w).alloc (.cells #[.int .i64 v.kind, .int .i64 v.n, .string (str v.s)] 24)).trans hs1)
  clear hbg hs1 hrow
  have hli := fun W => light_any v W
  rw [hlt] at hli
  unfold BoolP at hli
  go_wp2_with (go_at_call 9; refine stopAt ?_)
  unfold Hid
  refine (hli _).mono ?_
  rintro e w2 ⟨rfl, hs2⟩
  have HS2 := Lib.hid (HS1.out.trans hs2)
  have HE2 := Lib.hid (HE1.out.keepAll hs2)
  have hrow2 : Row w2 w.heap.size 24 (valCs v) := HR.out.keep hs2 trivial
  clear HR hs2 c0 c1 c2 hlb
  have HR := Lib.hid hrow2
  clear hrow2
  have htw := twin_any _ b _ w2 (HV.out.keepAll HS2.out) (by have := HN.out; omega)
  go_wp2_with (go_at_call 10; refine stopAt ?_)
  unfold Hid
  refine htw.mono ?_
  rintro e w3 ⟨tv, g, rfl, hg, ht, hs3⟩
  obtain rfl := ht.1
  have HT0 : Hid (Twin w3 g (.slice (some ⟨g, 0, none⟩) b.length (b.length + 3)) b) := Lib.hid ht
  have HS3 : Hid (Same (fun _ => True) w w3) := Lib.hid (HS2.out.trans hs3)
  have HE3 : Hid (EnvT w3) := Lib.hid (HE2.out.keepAll hs3)
  have hrow3 : Row w3 w.heap.size 24 (valCs v) := HR.out.keep hs3 trivial
  have HR3 := Lib.hid hrow3
  have HB : Hid (b.length ≤ 1024) := Lib.hid (by have := HN.out; omega)
  have HMV : ∀ W, By W (fun k => k < w.heap.size) (.slice A N cap) b → True := fun _ _ => trivial
  clear htw ht hs3 HR hrow3 hg HE1 HE2 HMV
  go_wp2
  go_loopw [6, 7, 8] (fun i x y wr => ∃ k : Nat, k ≤ 2 ∧ i = .int .i64 k ∧ Hid (Twin wr g (.slice (some ⟨g, 0, none⟩) b.length (b.length + 3)) b) ∧ Hid (Row wr w.heap.size 24 (valCs v)) ∧ Hid (Same (fun _ => True) w wr) ∧ Hid (EnvT wr)) (fun i _ _ _ => 2 - (intOf i).toNat)
  case atStart => exact ⟨0, by omega, rfl, HT0, HR3, HS3, HE3⟩
  case round =>
    obtain ⟨k, hk, rfl, HT, HR, HS, HE⟩ := hrel
    clear HT0 HR3 HS3 HE3
    rename World => wr
    by_cases hlt2 : k < 2
    · obtain ⟨c0, c1, c2, -, -, -⟩ := val_cells HR.out
      have hlb := HR.out.lt
      go_upto_region 9 with (fail)
      refine wp_region_tail_lit (L := [.eq (.slice (some ⟨g, 0, none⟩) b.length (b.length + 3)), .eq (.agg #[.int .i64 v.kind, .int .i64 v.n, .string (str v.s)]), .of (⟨fun v w => OwnB w wr.heap.size v KX, fun _ _ _ h k => h.keepAll k⟩), .eq (.slice (some ⟨g, 0, none⟩) b.length (b.length + 3)), .eq (.agg #[.int .i64 v.kind, .int .i64 v.n, .string (str v.s)]), ⟨some 2, (fun y x W => OwnB W wr.heap.size y PX ∧ ∀ k, x.ownBlock = some k → y.ownBlock ≠ some k), fun _ _ _ _ h k => ⟨h.1.keepAll k, h.2⟩⟩]) 6 (by kernel_rfl) (by kernel_rfl) rfl rfl rfl ?_ ?_
      · refine ⟨?_, ?_, ?_, ?_, ?_, ?_, trivial⟩
        · intro ac wc hs hd hz hf hw K hK
          have e0 : ac.eval (.tmp 5) = (.slice (some ⟨g, 0, none⟩) b.length (b.length + 3)) := hf 5 rfl
          clear hd hz hf hw
          simp only [Region.wanted, if_true, Oper.wp, execOp, resolve, List.map_toArray, List.map_cons, List.map_nil, Option.map_some, Option.map_none, e0]
          go_simp
          exact hK _ _ rfl (Same.refl _ _)
        · intro ac wc hs hd hz hf hw K hK
          have e0 : ac.eval (.tmp 3) = (.pointer (some ⟨w.heap.size, 0, none⟩)) := hf 3 rfl
          have m0 : wc.cell? ⟨w.heap.size, 0, none⟩ = some (.int .i64 v.kind) := hs.cell (p := ⟨w.heap.size, 0, none⟩) trivial c0
          have m1 : wc.cell? ⟨w.heap.size, 1, none⟩ = some (.int .i64 v.n) := hs.cell (p := ⟨w.heap.size, 1, none⟩) trivial c1
          have m2 : wc.cell? ⟨w.heap.size, 2, none⟩ = some (.string (str v.s)) := hs.cell (p := ⟨w.heap.size, 2, none⟩) trivial c2
          clear hd hz hf hw
          simp only [Region.wanted, if_true, Oper.wp, execOp, resolve, List.map_toArray, List.map_cons, List.map_nil, Option.map_some, Option.map_none, e0]
          go_simp
          exact hK _ _ rfl (Same.refl _ _)
        · intro ac wc hs hd hz hf hw K hK
          have e0 : ac.eval (.tmp 25) = (.slice (some ⟨g, 0, none⟩) b.length (b.length + 3)) := hw 0 rfl
          have e1 : ac.eval (.tmp 26) = (.agg #[.int .i64 v.kind, .int .i64 v.n, .string (str v.s)]) := hw 1 rfl
          clear hd hz hf hw
          simp only [Region.wanted, if_true, Oper.wp, execOp, resolve, List.map_toArray, List.map_cons, List.map_nil, Option.map_some, Option.map_none, e0, e1]
          go_simp
          refine (hke _ _ _ ((HT.out.keep hs trivial).by (by have := HB.out; simp only [maxLen]; omega))).mono ?_
          rintro e wd ⟨u, rfl, hu, hsu⟩
          exact hK _ _ (hu.lower hs.size) hsu
        · intro ac wc hs hd hz hf hw K hK
          have e0 : ac.eval (.tmp 5) = (.slice (some ⟨g, 0, none⟩) b.length (b.length + 3)) := hf 5 rfl
          clear hd hz hf hw
          simp only [Region.wanted, if_true, Oper.wp, execOp, resolve, List.map_toArray, List.map_cons, List.map_nil, Option.map_some, Option.map_none, e0]
          go_simp
          exact hK _ _ rfl (Same.refl _ _)
        · intro ac wc hs hd hz hf hw K hK
          have e0 : ac.eval (.tmp 3) = (.pointer (some ⟨w.heap.size, 0, none⟩)) := hf 3 rfl
          have m0 : wc.cell? ⟨w.heap.size, 0, none⟩ = some (.int .i64 v.kind) := hs.cell (p := ⟨w.heap.size, 0, none⟩) trivial c0
          have m1 : wc.cell? ⟨w.heap.size, 1, none⟩ = some (.int .i64 v.n) := hs.cell (p := ⟨w.heap.size, 1, none⟩) trivial c1
          have m2 : wc.cell? ⟨w.heap.size, 2, none⟩ = some (.string (str v.s)) := hs.cell (p := ⟨w.heap.size, 2, none⟩) trivial c2
          clear hd hz hf hw
          simp only [Region.wanted, if_true, Oper.wp, execOp, resolve, List.map_toArray, List.map_cons, List.map_nil, Option.map_some, Option.map_none, e0]
          go_simp
          exact hK _ _ rfl (Same.refl _ _)
        · intro ac wc hs hd hz hf hw K hK
          have e0 : ac.eval (.tmp 28) = (.slice (some ⟨g, 0, none⟩) b.length (b.length + 3)) := hw 3 rfl
          have e1 : ac.eval (.tmp 29) = (.agg #[.int .i64 v.kind, .int .i64 v.n, .string (str v.s)]) := hw 4 rfl
          have pk : ((⟨fun v w => OwnB w wr.heap.size v KX, fun _ _ _ h k => h.keepAll k⟩) : SP).p (valsOf _ ac 2) wc := hw 2 rfl
          clear hd hz hf hw
          simp only [Region.wanted, if_true, Oper.wp, execOp, resolve, List.map_toArray, List.map_cons, List.map_nil, Option.map_some, Option.map_none, e0, e1]
          go_simp
          refine (hpl _ _ _ ((HT.out.keep hs trivial).by (by have := HB.out; simp only [maxLen]; omega))).mono ?_
          rintro e wd ⟨u, rfl, hu, hsu⟩
          exact hK _ _ ⟨hu.lower hs.size, fun k h1 h2 => by have := (OwnB.lt_ (h := pk) h1).2; have := (hu.lt_ h2).1; omega⟩ hsu
      · intro vs wR hvl hvp hsR
        rcases vs with _ | ⟨z0, _ | ⟨z1, _ | ⟨z2, _ | ⟨z3, _ | ⟨z4, _ | ⟨z5, _ | ⟨zz, zr⟩⟩⟩⟩⟩⟩⟩
        rotate_right 1
        · simp at hvl
        · simp at hvl
        · simp at hvl
        · simp at hvl
        · simp at hvl
        · simp at hvl
        · simp at hvl
        · obtain rfl : z0 = (.slice (some ⟨g, 0, none⟩) b.length (b.length + 3)) := hvp 0 (by omega)
          obtain rfl : z1 = (.agg #[.int .i64 v.kind, .int .i64 v.n, .string (str v.s)]) := hvp 1 (by omega)
          have hx : ((⟨fun v w => OwnB w wr.heap.size v KX, fun _ _ _ h k => h.keepAll k⟩) : SP).p z2 wR := hvp 2 (by omega)
          obtain rfl : z3 = (.slice (some ⟨g, 0, none⟩) b.length (b.length + 3)) := hvp 3 (by omega)
          obtain rfl : z4 = (.agg #[.int .i64 v.kind, .int .i64 v.n, .string (str v.s)]) := hvp 4 (by omega)
          have hy : ((fun y x W => OwnB W wr.heap.size y PX ∧ ∀ k, x.ownBlock = some k → y.ownBlock ≠ some k)) z5 z2 wR := hvp 5 (by omega)
          clear hvl hvp
          simp only [putAll, Act.put, List.setIfInBounds_toArray, List.set_cons_succ, List.set_cons_zero, List.take_succ_cons, List.take_zero, List.drop_succ_cons, List.drop_zero, List.eraseIdx_cons_succ, List.eraseIdx_cons_zero]
          have hx0 : OwnB wR wr.heap.size z2 KX := hx
          have hy0 : OwnB wR wr.heap.size z5 PX := hy.1
          have hxy := hy.2
          obtain ⟨xA, xc, rfl, hx1, hx2⟩ := hx0.form
          obtain ⟨yA, yc, rfl, hy1, hy2⟩ := hy0.form
          have HX := Lib.hid hx0
          have HY := Lib.hid hy0
          have HXY := Lib.hid hxy
          have HSR := Lib.hid (HS.out.trans hsR)
          have HTR := Lib.hid (HT.out.keep hsR trivial)
          have HER := Lib.hid (HE.out.keepAll hsR)
          have HE0 := HE
          have hrR : Row wR w.heap.size 24 (valCs v) := HR.out.keep hsR trivial
          have hzR := hsR.size
          have hgT := HT.out.2.lt
          clear c0 c1 c2 hx hy hx0 hy0 hxy hsR HT HE
          obtain ⟨c0, c1, c2, -, -, -⟩ := val_cells hrR
          have HRR := Lib.hid hrR
          have hlR := hrR.lt
          clear hrR HR
          go_upto_region 10 with (fail)
          refine wp_region_vals_lit (L := [.eq (.slice xA KX.length xc), .eq (.string (str KX)), .eq (.slice A N cap), .eq (.agg #[.int .i64 v.kind, .int .i64 v.n, .string (str v.s)]), (⟨fun v w => OwnB w wR.heap.size v KX, fun _ _ _ h k => h.keepAll k⟩), .eq (.string (str KX)), .eq (.bool false), .eq (.bool false), .eq (.slice yA PX.length yc), .eq (.string (str PX)), .eq (.slice A N cap), .eq (.agg #[.int .i64 v.kind, .int .i64 v.n, .string (str v.s)]), (⟨fun v w => OwnB w wR.heap.size v PX, fun _ _ _ h k => h.keepAll k⟩), .eq (.string (str PX)), .eq (.bool false), .eq (.bool false), .eq (.bool false), .eq (.slice (some ⟨g, 0, none⟩) b.length (b.length + 3)), .eq (.slice A N cap), .eq (.bool true), .eq (.bool false), .eq (.bool false), .eq (.bool false), .eq (.agg #[.int .i64 v.kind, .int .i64 v.n, .string (str v.s)]), .eq (.bool (mayV v)), .eq (.agg #[.int .i64 v.kind, .int .i64 v.n, .string (str v.s)]), .eq (.bool (mayV v)), .eq (.bool false), .eq (.bool false), .eq (.bool false), .eq (.agg #[.int .i64 v.kind, .int .i64 v.n, .string (str v.s)]), .eq (.string (str (showL v))), .eq (.agg #[.int .i64 v.kind, .int .i64 v.n, .string (str v.s)]), .eq (.string (str (showL v))), .eq (.bool false), .eq (.bool false)]) (by kernel_rfl) (by kernel_rfl) rfl rfl ?_ ?_
          · refine ⟨?_, ?_, ?_, ?_, ?_, ?_, ?_, ?_, ?_, ?_, ?_, ?_, ?_, ?_, ?_, ?_, ?_, ?_, ?_, ?_, ?_, ?_, ?_, ?_, ?_, ?_, ?_, ?_, ?_, ?_, ?_, ?_, ?_, ?_, ?_, ?_, trivial⟩
            · intro ac wc hs hd hz hf hw K hK
              have e0 : ac.eval (.tmp 7) = (.slice xA KX.length xc) := hf 7 rfl
              clear hd hz hf hw
              simp only [Region.wanted, if_true, Oper.wp, execOp, resolve, List.map_toArray, List.map_cons, List.map_nil, Option.map_some, Option.map_none, e0]
              go_simp
              exact hK _ _ rfl (Same.refl _ _)
            · intro ac wc hs hd hz hf hw K hK
              have e0 : ac.eval (.tmp 31) = (.slice xA KX.length xc) := hw 0 rfl
              have hcv := conv_by (OwnB.by_ (HX.out.keepAll hs))
              clear hd hz hf hw
              simp only [Region.wanted, if_true, Oper.wp, execOp, resolve, List.map_toArray, List.map_cons, List.map_nil, Option.map_some, Option.map_none, e0]
              go_simp
              exact hK _ _ rfl (Same.refl _ _)
            · intro ac wc hs hd hz hf hw K hK
              have e0 : ac.eval (.tmp 0) = (.slice A N cap) := hf 0 rfl
              clear hd hz hf hw
              simp only [Region.wanted, if_true, Oper.wp, execOp, resolve, List.map_toArray, List.map_cons, List.map_nil, Option.map_some, Option.map_none, e0]
              go_simp
              exact hK _ _ rfl (Same.refl _ _)
            · intro ac wc hs hd hz hf hw K hK
              have e0 : ac.eval (.tmp 3) = (.pointer (some ⟨w.heap.size, 0, none⟩)) := hf 3 rfl
              have m0 : wc.cell? ⟨w.heap.size, 0, none⟩ = some (.int .i64 v.kind) := hs.cell (p := ⟨w.heap.size, 0, none⟩) trivial c0
              have m1 : wc.cell? ⟨w.heap.size, 1, none⟩ = some (.int .i64 v.n) := hs.cell (p := ⟨w.heap.size, 1, none⟩) trivial c1
              have m2 : wc.cell? ⟨w.heap.size, 2, none⟩ = some (.string (str v.s)) := hs.cell (p := ⟨w.heap.size, 2, none⟩) trivial c2
              clear hd hz hf hw
              simp only [Region.wanted, if_true, Oper.wp, execOp, resolve, List.map_toArray, List.map_cons, List.map_nil, Option.map_some, Option.map_none, e0]
              go_simp
              exact hK _ _ rfl (Same.refl _ _)
            · intro ac wc hs hd hz hf hw K hK
              have e0 : ac.eval (.tmp 33) = (.slice A N cap) := hw 2 rfl
              have e1 : ac.eval (.tmp 34) = (.agg #[.int .i64 v.kind, .int .i64 v.n, .string (str v.s)]) := hw 3 rfl
              clear hd hz hf hw
              simp only [Region.wanted, if_true, Oper.wp, execOp, resolve, List.map_toArray, List.map_cons, List.map_nil, Option.map_some, Option.map_none, e0, e1]
              go_simp
              refine (hrk _ _ _ (HV.out.keepAll (HSR.out.trans hs))).mono ?_
              rintro e wd ⟨u, rfl, hu, hsu⟩
              exact hK _ _ (hu.lower hs.size) hsu
            · intro ac wc hs hd hz hf hw K hK
              have p0 : ((⟨fun v w => OwnB w wR.heap.size v KX, fun _ _ _ h k => h.keepAll k⟩) : SP).p (ac.eval (.tmp 35)) wc := hw 4 rfl
              obtain ⟨u0, e0⟩ : ∃ u, ac.eval (.tmp 35) = u := ⟨_, rfl⟩
              rw [e0] at p0
              obtain ⟨rA, rc, rfl, -, -⟩ := OwnB.form p0
              have hcv := conv_by (OwnB.by_ p0)
              clear hd hz hf hw
              simp only [Region.wanted, if_true, Oper.wp, execOp, resolve, List.map_toArray, List.map_cons, List.map_nil, Option.map_some, Option.map_none, e0]
              go_simp
              exact hK _ _ rfl (Same.refl _ _)
            · intro ac wc hs hd hz hf hw K hK
              have e0 : ac.eval (.tmp 32) = (.string (str KX)) := hw 1 rfl
              have e1 : ac.eval (.tmp 36) = (.string (str KX)) := hw 5 rfl
              clear hd hz hf hw
              simp only [Region.wanted, if_true, Oper.wp, execOp, resolve, List.map_toArray, List.map_cons, List.map_nil, Option.map_some, Option.map_none, e0, e1]
              go_simp
              exact hK _ _ rfl (Same.refl _ _)
            · intro ac wc hs hd hz hf hw K hK
              have e0 : ac.eval (.tmp 37) = (.bool false) := hw 6 rfl
              clear hd hz hf hw
              simp only [Region.wanted, if_true, Oper.wp, execOp, resolve, List.map_toArray, List.map_cons, List.map_nil, Option.map_some, Option.map_none, e0]
              go_simp
              exact hK _ _ rfl (Same.refl _ _)
            · intro ac wc hs hd hz hf hw K hK
              have eg : ac.eval (.tmp 38) = .bool false := hw 7 rfl
              refine run_wanted (j := 7) (d := 38) (b := false) rfl rfl hz (of_decide_eq_true rfl) eg ?_
              clear eg
              have e0 : ac.eval (.tmp 8) = (.slice yA PX.length yc) := hf 8 rfl
              clear hd hz hf hw
              simp only [Oper.wp, execOp, resolve, List.map_toArray, List.map_cons, List.map_nil, Option.map_some, Option.map_none, e0]
              go_simp
              exact hK _ _ rfl (Same.refl _ _)
            · intro ac wc hs hd hz hf hw K hK
              have eg : ac.eval (.tmp 38) = .bool false := hw 7 rfl
              refine run_wanted (j := 7) (d := 38) (b := false) rfl rfl hz (of_decide_eq_true rfl) eg ?_
              clear eg
              have e0 : ac.eval (.tmp 39) = (.slice yA PX.length yc) := hw 8 rfl
              have hcv := conv_by (OwnB.by_ (HY.out.keepAll hs))
              clear hd hz hf hw
              simp only [Oper.wp, execOp, resolve, List.map_toArray, List.map_cons, List.map_nil, Option.map_some, Option.map_none, e0]
              go_simp
              exact hK _ _ rfl (Same.refl _ _)
            · intro ac wc hs hd hz hf hw K hK
              have eg : ac.eval (.tmp 38) = .bool false := hw 7 rfl
              refine run_wanted (j := 7) (d := 38) (b := false) rfl rfl hz (of_decide_eq_true rfl) eg ?_
              clear eg
              have e0 : ac.eval (.tmp 0) = (.slice A N cap) := hf 0 rfl
              clear hd hz hf hw
              simp only [Oper.wp, execOp, resolve, List.map_toArray, List.map_cons, List.map_nil, Option.map_some, Option.map_none, e0]
              go_simp
              exact hK _ _ rfl (Same.refl _ _)
            · intro ac wc hs hd hz hf hw K hK
              have eg : ac.eval (.tmp 38) = .bool false := hw 7 rfl
              refine run_wanted (j := 7) (d := 38) (b := false) rfl rfl hz (of_decide_eq_true rfl) eg ?_
              clear eg
              have e0 : ac.eval (.tmp 3) = (.pointer (some ⟨w.heap.size, 0, none⟩)) := hf 3 rfl
              have m0 : wc.cell? ⟨w.heap.size, 0, none⟩ = some (.int .i64 v.kind) := hs.cell (p := ⟨w.heap.size, 0, none⟩) trivial c0
              have m1 : wc.cell? ⟨w.heap.size, 1, none⟩ = some (.int .i64 v.n) := hs.cell (p := ⟨w.heap.size, 1, none⟩) trivial c1
              have m2 : wc.cell? ⟨w.heap.size, 2, none⟩ = some (.string (str v.s)) := hs.cell (p := ⟨w.heap.size, 2, none⟩) trivial c2
              clear hd hz hf hw
              simp only [Oper.wp, execOp, resolve, List.map_toArray, List.map_cons, List.map_nil, Option.map_some, Option.map_none, e0]
              go_simp
              exact hK _ _ rfl (Same.refl _ _)
            · intro ac wc hs hd hz hf hw K hK
              have eg : ac.eval (.tmp 38) = .bool false := hw 7 rfl
              refine run_wanted (j := 7) (d := 38) (b := false) rfl rfl hz (of_decide_eq_true rfl) eg ?_
              clear eg
              have e0 : ac.eval (.tmp 41) = (.slice A N cap) := hw 10 rfl
              have e1 : ac.eval (.tmp 42) = (.agg #[.int .i64 v.kind, .int .i64 v.n, .string (str v.s)]) := hw 11 rfl
              clear hd hz hf hw
              simp only [Oper.wp, execOp, resolve, List.map_toArray, List.map_cons, List.map_nil, Option.map_some, Option.map_none, e0, e1]
              go_simp
              refine (hrp _ _ _ (HV.out.keepAll (HSR.out.trans hs))).mono ?_
              rintro e wd ⟨u, rfl, hu, hsu⟩
              exact hK _ _ (hu.lower hs.size) hsu
            · intro ac wc hs hd hz hf hw K hK
              have eg : ac.eval (.tmp 38) = .bool false := hw 7 rfl
              refine run_wanted (j := 7) (d := 38) (b := false) rfl rfl hz (of_decide_eq_true rfl) eg ?_
              clear eg
              have p0 : ((⟨fun v w => OwnB w wR.heap.size v PX, fun _ _ _ h k => h.keepAll k⟩) : SP).p (ac.eval (.tmp 43)) wc := hw 12 rfl
              obtain ⟨u0, e0⟩ : ∃ u, ac.eval (.tmp 43) = u := ⟨_, rfl⟩
              rw [e0] at p0
              obtain ⟨rA, rc, rfl, -, -⟩ := OwnB.form p0
              have hcv := conv_by (OwnB.by_ p0)
              clear hd hz hf hw
              simp only [Oper.wp, execOp, resolve, List.map_toArray, List.map_cons, List.map_nil, Option.map_some, Option.map_none, e0]
              go_simp
              exact hK _ _ rfl (Same.refl _ _)
            · intro ac wc hs hd hz hf hw K hK
              have eg : ac.eval (.tmp 38) = .bool false := hw 7 rfl
              refine run_wanted (j := 7) (d := 38) (b := false) rfl rfl hz (of_decide_eq_true rfl) eg ?_
              clear eg
              have e0 : ac.eval (.tmp 40) = (.string (str PX)) := hw 9 rfl
              have e1 : ac.eval (.tmp 44) = (.string (str PX)) := hw 13 rfl
              clear hd hz hf hw
              simp only [Oper.wp, execOp, resolve, List.map_toArray, List.map_cons, List.map_nil, Option.map_some, Option.map_none, e0, e1]
              go_simp
              exact hK _ _ rfl (Same.refl _ _)
            · intro ac wc hs hd hz hf hw K hK
              have e0 : ac.eval (.tmp 38) = (.bool false) := hw 7 rfl
              have e1 : ac.eval (.tmp 45) = (.bool false) := hw 14 rfl
              clear hd hz hf hw
              simp only [Region.wanted, if_true, Oper.wp, execOp, resolve, List.map_toArray, List.map_cons, List.map_nil, Option.map_some, Option.map_none, e0, e1]
              go_simp
              exact hK _ _ rfl (Same.refl _ _)
            · intro ac wc hs hd hz hf hw K hK
              have e0 : ac.eval (.tmp 46) = (.bool false) := hw 15 rfl
              clear hd hz hf hw
              simp only [Region.wanted, if_true, Oper.wp, execOp, resolve, List.map_toArray, List.map_cons, List.map_nil, Option.map_some, Option.map_none, e0]
              go_simp
              exact hK _ _ rfl (Same.refl _ _)
            · intro ac wc hs hd hz hf hw K hK
              have eg : ac.eval (.tmp 47) = .bool false := hw 16 rfl
              refine run_wanted (j := 16) (d := 47) (b := false) rfl rfl hz (of_decide_eq_true rfl) eg ?_
              clear eg
              have e0 : ac.eval (.tmp 5) = (.slice (some ⟨g, 0, none⟩) b.length (b.length + 3)) := hf 5 rfl
              clear hd hz hf hw
              simp only [Oper.wp, execOp, resolve, List.map_toArray, List.map_cons, List.map_nil, Option.map_some, Option.map_none, e0]
              go_simp
              exact hK _ _ rfl (Same.refl _ _)
            · intro ac wc hs hd hz hf hw K hK
              have eg : ac.eval (.tmp 47) = .bool false := hw 16 rfl
              refine run_wanted (j := 16) (d := 47) (b := false) rfl rfl hz (of_decide_eq_true rfl) eg ?_
              clear eg
              have e0 : ac.eval (.tmp 0) = (.slice A N cap) := hf 0 rfl
              clear hd hz hf hw
              simp only [Oper.wp, execOp, resolve, List.map_toArray, List.map_cons, List.map_nil, Option.map_some, Option.map_none, e0]
              go_simp
              exact hK _ _ rfl (Same.refl _ _)
            · intro ac wc hs hd hz hf hw K hK
              have eg : ac.eval (.tmp 47) = .bool false := hw 16 rfl
              refine run_wanted (j := 16) (d := 47) (b := false) rfl rfl hz (of_decide_eq_true rfl) eg ?_
              clear eg
              have e0 : ac.eval (.tmp 48) = (.slice (some ⟨g, 0, none⟩) b.length (b.length + 3)) := hw 17 rfl
              have e1 : ac.eval (.tmp 49) = (.slice A N cap) := hw 18 rfl
              clear hd hz hf hw
              simp only [Oper.wp, execOp, resolve, List.map_toArray, List.map_cons, List.map_nil, Option.map_some, Option.map_none, e0, e1]
              go_simp
              refine (kept_any (.slice (some ⟨g, 0, none⟩) b.length (b.length + 3)) (.slice A N cap) b g _ _ (HTR.out.keep hs trivial) (HV.out.keepAll (HSR.out.trans hs)) (by have := HB.out; omega)).mono ?_
              rintro e wd ⟨rfl, rfl⟩
              exact hK _ _ rfl (Same.refl _ _)
            · intro ac wc hs hd hz hf hw K hK
              have eg : ac.eval (.tmp 47) = .bool false := hw 16 rfl
              refine run_wanted (j := 16) (d := 47) (b := false) rfl rfl hz (of_decide_eq_true rfl) eg ?_
              clear eg
              have e0 : ac.eval (.tmp 50) = (.bool true) := hw 19 rfl
              clear hd hz hf hw
              simp only [Oper.wp, execOp, resolve, List.map_toArray, List.map_cons, List.map_nil, Option.map_some, Option.map_none, e0]
              go_simp
              exact hK _ _ rfl (Same.refl _ _)
            · intro ac wc hs hd hz hf hw K hK
              have e0 : ac.eval (.tmp 47) = (.bool false) := hw 16 rfl
              have e1 : ac.eval (.tmp 51) = (.bool false) := hw 20 rfl
              clear hd hz hf hw
              simp only [Region.wanted, if_true, Oper.wp, execOp, resolve, List.map_toArray, List.map_cons, List.map_nil, Option.map_some, Option.map_none, e0, e1]
              go_simp
              exact hK _ _ rfl (Same.refl _ _)
            · intro ac wc hs hd hz hf hw K hK
              have e0 : ac.eval (.tmp 52) = (.bool false) := hw 21 rfl
              clear hd hz hf hw
              simp only [Region.wanted, if_true, Oper.wp, execOp, resolve, List.map_toArray, List.map_cons, List.map_nil, Option.map_some, Option.map_none, e0]
              go_simp
              exact hK _ _ rfl (Same.refl _ _)
            · intro ac wc hs hd hz hf hw K hK
              have eg : ac.eval (.tmp 53) = .bool false := hw 22 rfl
              refine run_wanted (j := 22) (d := 53) (b := false) rfl rfl hz (of_decide_eq_true rfl) eg ?_
              clear eg
              have e0 : ac.eval (.tmp 3) = (.pointer (some ⟨w.heap.size, 0, none⟩)) := hf 3 rfl
              have m0 : wc.cell? ⟨w.heap.size, 0, none⟩ = some (.int .i64 v.kind) := hs.cell (p := ⟨w.heap.size, 0, none⟩) trivial c0
              have m1 : wc.cell? ⟨w.heap.size, 1, none⟩ = some (.int .i64 v.n) := hs.cell (p := ⟨w.heap.size, 1, none⟩) trivial c1
              have m2 : wc.cell? ⟨w.heap.size, 2, none⟩ = some (.string (str v.s)) := hs.cell (p := ⟨w.heap.size, 2, none⟩) trivial c2
              clear hd hz hf hw
              simp only [Oper.wp, execOp, resolve, List.map_toArray, List.map_cons, List.map_nil, Option.map_some, Option.map_none, e0]
              go_simp
              exact hK _ _ rfl (Same.refl _ _)
            · intro ac wc hs hd hz hf hw K hK
              have eg : ac.eval (.tmp 53) = .bool false := hw 22 rfl
              refine run_wanted (j := 22) (d := 53) (b := false) rfl rfl hz (of_decide_eq_true rfl) eg ?_
              clear eg
              have e0 : ac.eval (.tmp 54) = (.agg #[.int .i64 v.kind, .int .i64 v.n, .string (str v.s)]) := hw 23 rfl
              clear hd hz hf hw
              simp only [Oper.wp, execOp, resolve, List.map_toArray, List.map_cons, List.map_nil, Option.map_some, Option.map_none, e0]
              go_simp
              refine (exMay_any v _).mono ?_
              rintro e wd ⟨rfl, hsu⟩
              exact hK _ _ rfl hsu
            · intro ac wc hs hd hz hf hw K hK
              have eg : ac.eval (.tmp 53) = .bool false := hw 22 rfl
              refine run_wanted (j := 22) (d := 53) (b := false) rfl rfl hz (of_decide_eq_true rfl) eg ?_
              clear eg
              have e0 : ac.eval (.tmp 3) = (.pointer (some ⟨w.heap.size, 0, none⟩)) := hf 3 rfl
              have m0 : wc.cell? ⟨w.heap.size, 0, none⟩ = some (.int .i64 v.kind) := hs.cell (p := ⟨w.heap.size, 0, none⟩) trivial c0
              have m1 : wc.cell? ⟨w.heap.size, 1, none⟩ = some (.int .i64 v.n) := hs.cell (p := ⟨w.heap.size, 1, none⟩) trivial c1
              have m2 : wc.cell? ⟨w.heap.size, 2, none⟩ = some (.string (str v.s)) := hs.cell (p := ⟨w.heap.size, 2, none⟩) trivial c2
              clear hd hz hf hw
              simp only [Oper.wp, execOp, resolve, List.map_toArray, List.map_cons, List.map_nil, Option.map_some, Option.map_none, e0]
              go_simp
              exact hK _ _ rfl (Same.refl _ _)
            · intro ac wc hs hd hz hf hw K hK
              have eg : ac.eval (.tmp 53) = .bool false := hw 22 rfl
              refine run_wanted (j := 22) (d := 53) (b := false) rfl rfl hz (of_decide_eq_true rfl) eg ?_
              clear eg
              have e0 : ac.eval (.tmp 56) = (.agg #[.int .i64 v.kind, .int .i64 v.n, .string (str v.s)]) := hw 25 rfl
              clear hd hz hf hw
              simp only [Oper.wp, execOp, resolve, List.map_toArray, List.map_cons, List.map_nil, Option.map_some, Option.map_none, e0]
              go_simp
              refine (refMay_any v _).mono ?_
              rintro e wd ⟨rfl, hsu⟩
              exact hK _ _ rfl hsu
            · intro ac wc hs hd hz hf hw K hK
              have eg : ac.eval (.tmp 53) = .bool false := hw 22 rfl
              refine run_wanted (j := 22) (d := 53) (b := false) rfl rfl hz (of_decide_eq_true rfl) eg ?_
              clear eg
              have e0 : ac.eval (.tmp 55) = (.bool (mayV v)) := hw 24 rfl
              have e1 : ac.eval (.tmp 57) = (.bool (mayV v)) := hw 26 rfl
              clear hd hz hf hw
              simp only [Oper.wp, execOp, resolve, List.map_toArray, List.map_cons, List.map_nil, Option.map_some, Option.map_none, e0, e1]
              go_simp
              exact hK _ _ rfl (Same.refl _ _)
            · intro ac wc hs hd hz hf hw K hK
              have e0 : ac.eval (.tmp 53) = (.bool false) := hw 22 rfl
              have e1 : ac.eval (.tmp 58) = (.bool false) := hw 27 rfl
              clear hd hz hf hw
              simp only [Region.wanted, if_true, Oper.wp, execOp, resolve, List.map_toArray, List.map_cons, List.map_nil, Option.map_some, Option.map_none, e0, e1]
              go_simp
              exact hK _ _ rfl (Same.refl _ _)
            · intro ac wc hs hd hz hf hw K hK
              have e0 : ac.eval (.tmp 59) = (.bool false) := hw 28 rfl
              clear hd hz hf hw
              simp only [Region.wanted, if_true, Oper.wp, execOp, resolve, List.map_toArray, List.map_cons, List.map_nil, Option.map_some, Option.map_none, e0]
              go_simp
              exact hK _ _ rfl (Same.refl _ _)
            · intro ac wc hs hd hz hf hw K hK
              have eg : ac.eval (.tmp 60) = .bool false := hw 29 rfl
              refine run_wanted (j := 29) (d := 60) (b := false) rfl rfl hz (of_decide_eq_true rfl) eg ?_
              clear eg
              have e0 : ac.eval (.tmp 3) = (.pointer (some ⟨w.heap.size, 0, none⟩)) := hf 3 rfl
              have m0 : wc.cell? ⟨w.heap.size, 0, none⟩ = some (.int .i64 v.kind) := hs.cell (p := ⟨w.heap.size, 0, none⟩) trivial c0
              have m1 : wc.cell? ⟨w.heap.size, 1, none⟩ = some (.int .i64 v.n) := hs.cell (p := ⟨w.heap.size, 1, none⟩) trivial c1
              have m2 : wc.cell? ⟨w.heap.size, 2, none⟩ = some (.string (str v.s)) := hs.cell (p := ⟨w.heap.size, 2, none⟩) trivial c2
              clear hd hz hf hw
              simp only [Oper.wp, execOp, resolve, List.map_toArray, List.map_cons, List.map_nil, Option.map_some, Option.map_none, e0]
              go_simp
              exact hK _ _ rfl (Same.refl _ _)
            · intro ac wc hs hd hz hf hw K hK
              have eg : ac.eval (.tmp 60) = .bool false := hw 29 rfl
              refine run_wanted (j := 29) (d := 60) (b := false) rfl rfl hz (of_decide_eq_true rfl) eg ?_
              clear eg
              have e0 : ac.eval (.tmp 61) = (.agg #[.int .i64 v.kind, .int .i64 v.n, .string (str v.s)]) := hw 30 rfl
              clear hd hz hf hw
              simp only [Oper.wp, execOp, resolve, List.map_toArray, List.map_cons, List.map_nil, Option.map_some, Option.map_none, e0]
              go_simp
              refine (show_any v _ hn (HER.out.keepAll hs)).mono ?_
              rintro e wd ⟨rfl, hsu⟩
              exact hK _ _ rfl hsu
            · intro ac wc hs hd hz hf hw K hK
              have eg : ac.eval (.tmp 60) = .bool false := hw 29 rfl
              refine run_wanted (j := 29) (d := 60) (b := false) rfl rfl hz (of_decide_eq_true rfl) eg ?_
              clear eg
              have e0 : ac.eval (.tmp 3) = (.pointer (some ⟨w.heap.size, 0, none⟩)) := hf 3 rfl
              have m0 : wc.cell? ⟨w.heap.size, 0, none⟩ = some (.int .i64 v.kind) := hs.cell (p := ⟨w.heap.size, 0, none⟩) trivial c0
              have m1 : wc.cell? ⟨w.heap.size, 1, none⟩ = some (.int .i64 v.n) := hs.cell (p := ⟨w.heap.size, 1, none⟩) trivial c1
              have m2 : wc.cell? ⟨w.heap.size, 2, none⟩ = some (.string (str v.s)) := hs.cell (p := ⟨w.heap.size, 2, none⟩) trivial c2
              clear hd hz hf hw
              simp only [Oper.wp, execOp, resolve, List.map_toArray, List.map_cons, List.map_nil, Option.map_some, Option.map_none, e0]
              go_simp
              exact hK _ _ rfl (Same.refl _ _)
            · intro ac wc hs hd hz hf hw K hK
              have eg : ac.eval (.tmp 60) = .bool false := hw 29 rfl
              refine run_wanted (j := 29) (d := 60) (b := false) rfl rfl hz (of_decide_eq_true rfl) eg ?_
              clear eg
              have e0 : ac.eval (.tmp 63) = (.agg #[.int .i64 v.kind, .int .i64 v.n, .string (str v.s)]) := hw 32 rfl
              clear hd hz hf hw
              simp only [Oper.wp, execOp, resolve, List.map_toArray, List.map_cons, List.map_nil, Option.map_some, Option.map_none, e0]
              go_simp
              refine (refshow_any v _ hn).mono ?_
              rintro e wd ⟨rfl, hsu⟩
              exact hK _ _ rfl hsu
            · intro ac wc hs hd hz hf hw K hK
              have eg : ac.eval (.tmp 60) = .bool false := hw 29 rfl
              refine run_wanted (j := 29) (d := 60) (b := false) rfl rfl hz (of_decide_eq_true rfl) eg ?_
              clear eg
              have e0 : ac.eval (.tmp 62) = (.string (str (showL v))) := hw 31 rfl
              have e1 : ac.eval (.tmp 64) = (.string (str (showL v))) := hw 33 rfl
              clear hd hz hf hw
              simp only [Oper.wp, execOp, resolve, List.map_toArray, List.map_cons, List.map_nil, Option.map_some, Option.map_none, e0, e1]
              go_simp
              exact hK _ _ rfl (Same.refl _ _)
            · intro ac wc hs hd hz hf hw K hK
              have e0 : ac.eval (.tmp 60) = (.bool false) := hw 29 rfl
              have e1 : ac.eval (.tmp 65) = (.bool false) := hw 34 rfl
              clear hd hz hf hw
              simp only [Region.wanted, if_true, Oper.wp, execOp, resolve, List.map_toArray, List.map_cons, List.map_nil, Option.map_some, Option.map_none, e0, e1]
              go_simp
              exact hK _ _ rfl (Same.refl _ _)
          · intro vs wQ hvl hvp hsQ
            rcases vs with _ | ⟨z0, _ | ⟨z1, _ | ⟨z2, _ | ⟨z3, _ | ⟨z4, _ | ⟨z5, _ | ⟨z6, _ | ⟨z7, _ | ⟨z8, _ | ⟨z9, _ | ⟨z10, _ | ⟨z11, _ | ⟨z12, _ | ⟨z13, _ | ⟨z14, _ | ⟨z15, _ | ⟨z16, _ | ⟨z17, _ | ⟨z18, _ | ⟨z19, _ | ⟨z20, _ | ⟨z21, _ | ⟨z22, _ | ⟨z23, _ | ⟨z24, _ | ⟨z25, _ | ⟨z26, _ | ⟨z27, _ | ⟨z28, _ | ⟨z29, _ | ⟨z30, _ | ⟨z31, _ | ⟨z32, _ | ⟨z33, _ | ⟨z34, _ | ⟨z35, _ | ⟨zz, zr⟩⟩⟩⟩⟩⟩⟩⟩⟩⟩⟩⟩⟩⟩⟩⟩⟩⟩⟩⟩⟩⟩⟩⟩⟩⟩⟩⟩⟩⟩⟩⟩⟩⟩⟩⟩⟩
            rotate_right 1
            · simp at hvl
            · simp at hvl
            · simp at hvl
            · simp at hvl
            · simp at hvl
            · simp at hvl
            · simp at hvl
            · simp at hvl
            · simp at hvl
            · simp at hvl
            · simp at hvl
            · simp at hvl
            · simp at hvl
            · simp at hvl
            · simp at hvl
            · simp at hvl
            · simp at hvl
            · simp at hvl
            · simp at hvl
            · simp at hvl
            · simp at hvl
            · simp at hvl
            · simp at hvl
            · simp at hvl
            · simp at hvl
            · simp at hvl
            · simp at hvl
            · simp at hvl
            · simp at hvl
            · simp at hvl
            · simp at hvl
            · simp at hvl
            · simp at hvl
            · simp at hvl
            · simp at hvl
            · simp at hvl
            · simp at hvl
            · obtain rfl : z0 = (.slice xA KX.length xc) := hvp 0 (by simp) (by simp)
              obtain rfl : z1 = (.string (str KX)) := hvp 1 (by simp) (by simp)
              obtain rfl : z2 = (.slice A N cap) := hvp 2 (by simp) (by simp)
              obtain rfl : z3 = (.agg #[.int .i64 v.kind, .int .i64 v.n, .string (str v.s)]) := hvp 3 (by simp) (by simp)
              have hrk_ : ((⟨fun v w => OwnB w wR.heap.size v KX, fun _ _ _ h k => h.keepAll k⟩) : SP).p z4 wQ := hvp 4 (by simp) (by simp)
              obtain rfl : z5 = (.string (str KX)) := hvp 5 (by simp) (by simp)
              obtain rfl : z6 = (.bool false) := hvp 6 (by simp) (by simp)
              obtain rfl : z7 = (.bool false) := hvp 7 (by simp) (by simp)
              obtain rfl : z8 = (.slice yA PX.length yc) := hvp 8 (by simp) (by simp)
              obtain rfl : z9 = (.string (str PX)) := hvp 9 (by simp) (by simp)
              obtain rfl : z10 = (.slice A N cap) := hvp 10 (by simp) (by simp)
              obtain rfl : z11 = (.agg #[.int .i64 v.kind, .int .i64 v.n, .string (str v.s)]) := hvp 11 (by simp) (by simp)
              have hrp_ : ((⟨fun v w => OwnB w wR.heap.size v PX, fun _ _ _ h k => h.keepAll k⟩) : SP).p z12 wQ := hvp 12 (by simp) (by simp)
              obtain rfl : z13 = (.string (str PX)) := hvp 13 (by simp) (by simp)
              obtain rfl : z14 = (.bool false) := hvp 14 (by simp) (by simp)
              obtain rfl : z15 = (.bool false) := hvp 15 (by simp) (by simp)
              obtain rfl : z16 = (.bool false) := hvp 16 (by simp) (by simp)
              obtain rfl : z17 = (.slice (some ⟨g, 0, none⟩) b.length (b.length + 3)) := hvp 17 (by simp) (by simp)
              obtain rfl : z18 = (.slice A N cap) := hvp 18 (by simp) (by simp)
              obtain rfl : z19 = (.bool true) := hvp 19 (by simp) (by simp)
              obtain rfl : z20 = (.bool false) := hvp 20 (by simp) (by simp)
              obtain rfl : z21 = (.bool false) := hvp 21 (by simp) (by simp)
              obtain rfl : z22 = (.bool false) := hvp 22 (by simp) (by simp)
              obtain rfl : z23 = (.agg #[.int .i64 v.kind, .int .i64 v.n, .string (str v.s)]) := hvp 23 (by simp) (by simp)
              obtain rfl : z24 = (.bool (mayV v)) := hvp 24 (by simp) (by simp)
              obtain rfl : z25 = (.agg #[.int .i64 v.kind, .int .i64 v.n, .string (str v.s)]) := hvp 25 (by simp) (by simp)
              obtain rfl : z26 = (.bool (mayV v)) := hvp 26 (by simp) (by simp)
              obtain rfl : z27 = (.bool false) := hvp 27 (by simp) (by simp)
              obtain rfl : z28 = (.bool false) := hvp 28 (by simp) (by simp)
              obtain rfl : z29 = (.bool false) := hvp 29 (by simp) (by simp)
              obtain rfl : z30 = (.agg #[.int .i64 v.kind, .int .i64 v.n, .string (str v.s)]) := hvp 30 (by simp) (by simp)
              obtain rfl : z31 = (.string (str (showL v))) := hvp 31 (by simp) (by simp)
              obtain rfl : z32 = (.agg #[.int .i64 v.kind, .int .i64 v.n, .string (str v.s)]) := hvp 32 (by simp) (by simp)
              obtain rfl : z33 = (.string (str (showL v))) := hvp 33 (by simp) (by simp)
              obtain rfl : z34 = (.bool false) := hvp 34 (by simp) (by simp)
              obtain rfl : z35 = (.bool false) := hvp 35 (by simp) (by simp)
              clear hvl hvp
              simp only [putAll, Act.put, List.setIfInBounds_toArray, List.set_cons_succ, List.set_cons_zero]
              clear hrk hrp hrk_ hrp_
              have hX1 : OwnB wQ wr.heap.size (.slice xA KX.length xc) KX := HX.out.keepAll hsQ
              have hY1 : OwnB wQ wr.heap.size (.slice yA PX.length yc) PX := HY.out.keepAll hsQ
              have hxl := fun k (h : (Value.slice xA KX.length xc).ownBlock = some k) => hX1.lt_ h
              have hyl := fun k (h : (Value.slice yA PX.length yc).ownBlock = some k) => hY1.lt_ h
              have HSQ := Lib.hid (HSR.out.trans hsQ)
              have HTQ := Lib.hid (HTR.out.keep hsQ trivial)
              have HEQ := Lib.hid (HER.out.keepAll hsQ)
              have HRQ : Hid (Row wQ w.heap.size 24 (valCs v)) := Lib.hid (HRR.out.keep hsQ trivial)
              have HXL := Lib.hid hxl
              have HYL := Lib.hid hyl
              have hsp := spoil_any _ _ _ _ wQ hX1
              unfold SpoilPost at hsp
              have HY1 := Lib.hid hY1
              have h01 := HE0.out.lt
              clear hX1 hY1 hxl hyl hsQ HX HY HTR HER HRR c0 c1 c2
              go_wp2_with (go_at_call 20; refine stopAt ?_)
              unfold Hid
              refine hsp.mono ?_
              rintro e wS ⟨rfl, hsS⟩
              have hY2 : OwnB wS wr.heap.size (.slice yA PX.length yc) PX := own_keep HY1.out hsS (fun k hk e => HXY.out k e.symm hk)
              have hsp2 := spoil_any _ _ _ _ wS hY2
              unfold SpoilPost at hsp2
              have HSS := Lib.hid hsS
              clear hsp hsS hY2
              go_wp2_with (go_at_call 20; refine stopAt ?_)
              unfold Hid
              refine hsp2.mono ?_
              rintro e wT ⟨rfl, hsT⟩
              have nx : ∀ j, j < wr.heap.size → some j ≠ (Value.slice xA KX.length xc).ownBlock := fun j hj e => by have := (HXL.out j e.symm).1; omega
              have ny : ∀ j, j < wr.heap.size → some j ≠ (Value.slice yA PX.length yc).ownBlock := fun j hj e => by have := (HYL.out j e.symm).1; omega
              have HSW : Hid (Same (fun _ => True) w wT) := Lib.hid ((HSQ.out.trans' HSS.out (fun i hi _ => nx i (by omega))).trans' hsT (fun i hi _ => ny i (by omega)))
              have HTW : Hid (Twin wT g (.slice (some ⟨g, 0, none⟩) b.length (b.length + 3)) b) := Lib.hid ((HTQ.out.keep HSS.out (nx g hgT)).keep hsT (ny g hgT))
              have HRW : Hid (Row wT w.heap.size 24 (valCs v)) := Lib.hid ((HRQ.out.keep HSS.out (nx _ hlb)).keep hsT (ny _ hlb))
              have HEW : Hid (EnvT wT) := Lib.hid ((HEQ.out.keep HSS.out (nx 0 (by omega)) (nx 1 (by omega))).keep hsT (ny 0 (by omega)) (ny 1 (by omega)))
              clear hsT hsp2 nx ny
              go_wp2
              go_roundw
              case rel => exact ⟨k + 1, by omega, by go_num, HTW, HRW, HSW, HEW⟩
              case measure => simp [intOf]; omega
    · obtain rfl : k = 2 := by omega
      go_wp2
      go_ret
      exact ⟨rfl, HS.out⟩
theorem writes_walk (v : Val) (r : Value) (b : List UInt8) (S : Nat → Prop) (w : World) (hr : By w S r b) (hE : EnvT w) (hn : I64 v.n) : Calls Tryd.prog 3 #[r, valV v] w (BoolP true w) := by
  by_cases hl : 1024 < b.length
  · exact writes_long v r b S w hr hE hn hl
  · cases hlt : decide (v.s.length ≤ 1000)
    · exact writes_heavy v r b S w hr hE hn hl hlt
    · exact writes_main v r b S w hr hE hn hl hlt
end Go.Proofs.YtpbekhcogpkbpaaDoor
