/-
  Words, plain models, laws and walks that the claims of this layer share (joined by shake.py). No condition.
-/
import Derived.Test.YtpjinngngbifoaaU1
import Derived.Test.YtpjinngngbifoaaU2
import Derived.Test.YtpjinngngbifoaaU3
import Derived.Test.YtpjinngngbifoaaU4
import Derived.Test.YtpjinngngbifoaaU5
import Derived.Test.YtpjinngngbifoaaU6
import Derived.Test.YtpjinngngbifoaaU7
import Derived.Test.YtpjinngngbifoaaU8
import Derived.Test.YtpjinngngbifoaaU9
import Derived.Test.YtpjinngngbifoaaU10
import Derived.Test.YtpjinngngbifoaaU11
import Derived.Test.YtpjinngngbifoaaU12
import Derived.Test.YtpjinngngbifoaaU13
import Derived.Test.YtpjinngngbifoaaU14
import Derived.Test.YtpjinngngbifoaaU15
import Derived.Test.YtpjinngngbifoaaU16
import Derived.Test.YtpjinngngbifoaaU17
import Derived.Test.YtpjinngngbifoaaU18
import Derived.Test.YtpjinngngbifoaaU19
import Derived.Test.YtpjinngngbifoaaU20
import Derived.Test.YtpjinngngbifoaaU21
import Derived.Test.YtpjinngngbifoaaU22
import Derived.Test.YtpjinngngbifoaaU23
import Derived.Test.YtpjinngngbifoaaU24
import Derived.Test.YtpjinngngbifoaaU25
import Derived.Test.YtpjinngngbifoaaU26
import Derived.Test.YtpjinngngbifoaaU27
import Derived.Test.YtpjinngngbifoaaU28
import Derived.Test.YtpjinngngbifoaaU29
import Derived.Test.YtpjinngngbifoaaU30
import Derived.Test.YtpjinngngbifoaaU31
import Derived.Test.YtpjinngngbifoaaU32
import Derived.Test.YtpjinngngbifoaaU33
import Derived.Test.YtpjinngngbifoaaU34
set_option linter.unusedSimpArgs false
set_option linter.unusedVariables false
namespace Go.Proofs.Ytpjinngngbifoaa
open Go.RowKit
theorem openW_recs {d : DiskM} {m0 m1 : Option LookM} {k : Nat} (h : PInv k (openW d m0 m1).2.1 (openW d m0 m1).2.2) (hk : k ≤ 42) : ∀ l recs, (openW d m0 m1).2.2 = some (l, recs) → recs.length ≤ 100000 := fun l recs e => by
  have := (h.log l recs e).rl
  omega
/-- An opening, told by what it leaves. -/
theorem open_done {B0 b g r h k : Nat} {F : Nat → Prop} {d : DiskM} {pv xv : Value} (w : World) (H : HalfW w B0 b g r h F d pv xv) (hd : d.Fit) (hds : d.steps + 3 < 1000000) (hl : Len d 19000) (hk : k ≤ 41)
    (hP : ∀ m0 m1, LookF d.f0.b m0 → LookF d.f1.b m1 → PInv (k + 1) (openW d m0 m1).2.1 (openW d m0 m1).2.2) :
    Calls Try.prog 29 #[ptr b] w (DoneP B0 b g r h k w) := by
  obtain ⟨m0, h0⟩ := look_total d.f0.b
  obtain ⟨m1, h1⟩ := look_total d.f1.b
  have hp := hP m0 m1 h0 h1
  refine (both_open B0 b g r h F d pv xv m0 m1 w H hd hds h0 h1 hl.f0 hl.f1 (openW_recs hp (by omega))).mono ?_
  rintro e w' ⟨rfl, F', hT, hs⟩
  exact ⟨rfl, _, _, F', hT, hp, hs⟩
theorem HalfW.ofTwos {w : World} {B0 b g r h : Nat} {F : Nat → Prop} {d : DiskM} {st : StM} (H : Twos w B0 b g r h F d st) : ∃ pv xv, HalfW w B0 b g r h F d pv xv := by
  obtain ⟨pv, xv, h1, -⟩ := H
  exact ⟨pv, xv, h1⟩
section
variable (B0 b g r h k : Nat) (F : Nat → Prop) (d : DiskM) (st : StM) (o : OpW) (vb vl vk : Value) (w : World)
set_option maxRecDepth 100000 in
set_option maxHeartbeats 1000000 in
theorem do_nil (H : Twos w B0 b g r h F d none) (HP : PInv k d none) (hki : -9223372036854775808 ≤ o.kind ∧ o.kind ≤ 9223372036854775807) (hkind : placeF o.kind 7 ≤ 2) (hk0 : 0 ≤ placeF o.kind 7) :
    Calls Try.prog 30 #[ptr b, .agg #[.int .i64 o.kind, .int .i64 o.n, .bool o.made, vb, vl, vk]] w (DoneP B0 b g r h k w) := by
  have hpl := fun w => place_any o.kind 7 w hki (by omega)
  obtain ⟨q, hq⟩ : ∃ q, q = placeF o.kind 7 := ⟨_, rfl⟩
  rw [← hq] at hpl hkind hk0
  have HT := Lib.hid H
  obtain ⟨pv, xv, hH, rfl, rfl⟩ := H
  have HPM := Lib.hid HP.mono
  have c3 := hH.row.cell 3
  have hb := hH.row.lt
  simp at c3
  have hn3 : ¬ q = 3 := by omega
  have hn4 : ¬ q = 4 := by omega
  have hn5 : ¬ q = 5 := by omega
  have hn6 : ¬ q = 6 := by omega
  clear hq hH HP hki
  go_enter Try.func30, Try.ntmps30
  go_wp2_with (go_at_call 25; refine (hpl _).mono ?_; rintro e w' ⟨rfl, rfl⟩)
  go_ret
  exact ⟨rfl, d, none, F, HT.out.keepAll ((Same.refl _ _).alloc _), HPM.out, (Same.refl _ _).alloc _⟩
set_option maxRecDepth 100000 in
set_option maxHeartbeats 1000000 in
theorem do_open (H : Twos w B0 b g r h F d st) (HP : PInv k d st) (hk : k ≤ 41) (hki : -9223372036854775808 ≤ o.kind ∧ o.kind ≤ 9223372036854775807) (hkind : placeF o.kind 7 = 5) :
    Calls Try.prog 30 #[ptr b, .agg #[.int .i64 o.kind, .int .i64 o.n, .bool o.made, vb, vl, vk]] w (DoneP B0 b g r h k w) := by
  have hpl := fun w => place_any o.kind 7 w hki (by omega)
  rw [hkind] at hpl
  obtain ⟨pv, xv, hH⟩ := HalfW.ofTwos H
  have hbox : Same (fun _ => True) w (w.alloc (.cells #[.int .i64 o.kind, .int .i64 o.n, .bool o.made, vb, vl, vk] 53)) := (Same.refl _ _).alloc _
  have hop := open_done _ (hH.keepAll hbox) (HP.fit (by omega)) (by have := HP.steps; omega) (HP.len.mono (by omega)) hk fun m0 m1 h0 h1 => HP.again hk h0 h1
  have HBOX := Lib.hid hbox
  clear H HP hki hkind hH hbox
  go_enter Try.func30, Try.ntmps30
  go_wp2_with (first | (go_at_call 25; refine (hpl _).mono ?_; rintro e w' ⟨rfl, rfl⟩) | (go_at_call 29; refine hop.mono ?_; rintro e w2 ⟨rfl, d2, st2, F2, hT2, hP2, hs2⟩))
  go_ret
  exact ⟨rfl, d2, st2, F2, hT2, hP2, (HBOX.out.mono fun _ _ _ => trivial).trans hs2⟩
end
theorem HalfW.disks {w w' : World} {B0 b g r h : Nat} {F : Nat → Prop} {d d' : DiskM} {pv xv : Value} (H : HalfW w B0 b g r h F d pv xv) (hs : Same (fun k => k ≠ g ∧ k ≠ r ∧ k ≠ h) w w') (hd : DiskAt w' g r F d') (hr : RefAt w' h d') : HalfW w' B0 b g r h F d' pv xv :=
  ⟨H.row.keep hs ⟨H.ne.1, H.ne.2.1, H.ne.2.2.1⟩, hd, hr, H.apart, H.lo⟩
theorem Twos.disks {w w' : World} {B0 b g r h : Nat} {F : Nat → Prop} {d d' : DiskM} {st : StM} (H : Twos w B0 b g r h F d st) (hs : Same (fun k => k ≠ g ∧ k ≠ r ∧ k ≠ h) w w') (hd : DiskAt w' g r F d') (hr : RefAt w' h d') : Twos w' B0 b g r h F d' st := by
  obtain ⟨pv, xv, h1, h2⟩ := H
  refine ⟨pv, xv, h1.disks hs hd hr, ?_⟩
  cases st with
  | none => exact h2
  | some z =>
    obtain ⟨p, x, u, q1, q2, h3, h4, h5, h6, h7, h8⟩ := h2
    refine ⟨p, x, u, q1, q2, h3.keep hs ⟨Row.ne h3 h1.disk.1 (by decide), map_ne h1.disk h3, Row.ne h3 h1.ref (by decide)⟩, h4, h5, h6.keep hs ⟨h6.row.ne h1.disk.1 (by decide), map_ne h1.disk h6.row, h6.row.ne h1.ref (by decide)⟩ fun k hk => ⟨?_, ?_, ?_⟩, h7, h8⟩
    · rintro rfl; exact own_row_ne h6.own h1.disk.1 (by decide) hk.symm
    · rintro rfl; exact own_map_ne h6.own h1.disk hk.symm
    · rintro rfl; exact own_row_ne h6.own h1.ref (by decide) hk.symm
section
variable (B0 b g r h k : Nat) (F : Nat → Prop) (d : DiskM) (st : StM) (o : OpW) (vb vl vk : Value) (w : World)
set_option maxRecDepth 100000 in
set_option maxHeartbeats 1000000 in
theorem do_arm (H : Twos w B0 b g r h F d st) (HP : PInv k d st) (hk : k ≤ 41) (hki : -9223372036854775808 ≤ o.kind ∧ o.kind ≤ 9223372036854775807) (hn : -9223372036854775808 ≤ o.n ∧ o.n ≤ 9223372036854775807) (hkind : placeF o.kind 7 = 3) :
    Calls Try.prog 30 #[ptr b, .agg #[.int .i64 o.kind, .int .i64 o.n, .bool o.made, vb, vl, vk]] w (DoneP B0 b g r h k w) := by
  have hpl := fun w => place_any o.kind 7 w hki (by omega)
  rw [hkind] at hpl
  have HT := Lib.hid H
  have HPA := Lib.hid (HP.arm o.n hn.2)
  obtain ⟨pv, xv, hH⟩ := HalfW.ofTwos H
  have HH := Lib.hid hH
  have HN := Lib.hid hH.ne
  have hbox : Same (fun _ => True) w (w.alloc (.cells #[.int .i64 o.kind, .int .i64 o.n, .bool o.made, vb, vl, vk] 53)) := (Same.refl _ _).alloc _
  have HRB := Lib.hid (Row.new w 53 [.int .i64 o.kind, .int .i64 o.n, .bool o.made, vb, vl, vk])
  have HBOX := Lib.hid hbox
  have hlo := hH.lo
  have hb := hH.row.lt
  have hg := hH.disk.2.1
  have hr := hH.disk.2.2.1
  have hh := hH.ref.lt
  have HLO := Lib.hid hlo
  clear H HP hki hkind hH hbox hlo
  go_enter Try.func30, Try.ntmps30
  go_wp2_with (go_at_call 25; refine (hpl _).mono ?_; rintro e w' ⟨rfl, rfl⟩)
  obtain ⟨W, hW⟩ : ∃ W, W = w.alloc (.cells #[.int .i64 o.kind, .int .i64 o.n, .bool o.made, vb, vl, vk] 53) := ⟨_, rfl⟩
  rw [← hW]
  have hWs : Same (fun _ => True) w W := hW ▸ HBOX.out
  have hWb : Row W w.heap.size 53 [.int .i64 o.kind, .int .i64 o.n, .bool o.made, vb, vl, vk] := hW ▸ HRB.out
  have rowW := HH.out.row.keep hWs trivial
  have c0W := rowW.cell 0
  have c1W := rowW.cell 1
  have cnW := hWb.cell 1
  simp at c0W c1W cnW
  have HWS := Lib.hid hWs
  have HWB := Lib.hid hWb
  clear hW hWs hWb rowW hpl
  refine wp_region_tail_lit (L := [.eq (ptr b), .eq (ptr b), .eq (.pointer (some ⟨b, 0, none⟩)), .eq (ptr g), .eq (.pointer (some ⟨w.heap.size, 1, none⟩)), .eq (.int .i64 o.n)]) 6 (by kernel_rfl) (by kernel_rfl) rfl rfl rfl ?_ ?_
  · refine ⟨?_, ?_, ?_, ?_, ?_, ?_, trivial⟩
    · intro ac wc hs hd hz hf hw K hK
      have e0 : ac.eval (.tmp 0) = (ptr b) := hf 0 rfl
      clear hd hz hf hw
      simp only [Region.wanted, if_true, Oper.wp, execOp, resolve, List.map_toArray, List.map_cons, List.map_nil, Option.map_some, Option.map_none, e0]
      go_simp
      exact hK _ _ rfl (Same.refl _ _)
    · intro ac wc hs hd hz hf hw K hK
      have e0 : ac.eval (.tmp 16) = (ptr b) := hw 0 rfl
      clear hd hz hf hw
      simp only [Region.wanted, if_true, Oper.wp, execOp, resolve, List.map_toArray, List.map_cons, List.map_nil, Option.map_some, Option.map_none, e0]
      go_simp
      exact hK _ _ rfl (Same.refl _ _)
    · intro ac wc hs hd hz hf hw K hK
      have e0 : ac.eval (.tmp 17) = (ptr b) := hw 1 rfl
      clear hd hz hf hw
      simp only [Region.wanted, if_true, Oper.wp, execOp, resolve, List.map_toArray, List.map_cons, List.map_nil, Option.map_some, Option.map_none, e0]
      go_simp
      exact hK _ _ rfl (Same.refl _ _)
    · intro ac wc hs hd hz hf hw K hK
      have e0 : ac.eval (.tmp 18) = (.pointer (some ⟨b, 0, none⟩)) := hw 2 rfl
      have m0 : wc.cell? ⟨b, 0, none⟩ = some (ptr g) := hs.cell (p := ⟨b, 0, none⟩) trivial c0W
      clear hd hz hf hw
      simp only [Region.wanted, if_true, Oper.wp, execOp, resolve, List.map_toArray, List.map_cons, List.map_nil, Option.map_some, Option.map_none, e0]
      go_simp
      exact hK _ _ rfl (Same.refl _ _)
    · intro ac wc hs hd hz hf hw K hK
      have e0 : ac.eval (.tmp 3) = (.pointer (some ⟨w.heap.size, 0, none⟩)) := hf 3 rfl
      clear hd hz hf hw
      simp only [Region.wanted, if_true, Oper.wp, execOp, resolve, List.map_toArray, List.map_cons, List.map_nil, Option.map_some, Option.map_none, e0]
      go_simp
      exact hK _ _ rfl (Same.refl _ _)
    · intro ac wc hs hd hz hf hw K hK
      have e0 : ac.eval (.tmp 20) = (.pointer (some ⟨w.heap.size, 1, none⟩)) := hw 4 rfl
      have m0 : wc.cell? ⟨w.heap.size, 1, none⟩ = some (.int .i64 o.n) := hs.cell (p := ⟨w.heap.size, 1, none⟩) trivial cnW
      clear hd hz hf hw
      simp only [Region.wanted, if_true, Oper.wp, execOp, resolve, List.map_toArray, List.map_cons, List.map_nil, Option.map_some, Option.map_none, e0]
      go_simp
      exact hK _ _ rfl (Same.refl _ _)
  · intro vs wR hvl hvp hsR
    rcases vs with _ | ⟨z0, _ | ⟨z1, _ | ⟨z2, _ | ⟨z3, _ | ⟨z4, _ | ⟨z5, _ | ⟨zz, zr⟩⟩⟩⟩⟩⟩⟩
    rotate_right 1
    · simp at hvl
    · simp at hvl
    · simp at hvl
    · simp at hvl
    · simp at hvl
    · simp at hvl
    · simp at hvl
    · obtain rfl : z0 = (ptr b) := hvp 0 (by omega)
      obtain rfl : z1 = (ptr b) := hvp 1 (by omega)
      obtain rfl : z2 = (.pointer (some ⟨b, 0, none⟩)) := hvp 2 (by omega)
      obtain rfl : z3 = (ptr g) := hvp 3 (by omega)
      obtain rfl : z4 = (.pointer (some ⟨w.heap.size, 1, none⟩)) := hvp 4 (by omega)
      obtain rfl : z5 = (.int .i64 o.n) := hvp 5 (by omega)
      clear hvl hvp
      simp only [putAll, Act.put, List.setIfInBounds_toArray, List.set_cons_succ, List.set_cons_zero, List.take_succ_cons, List.take_zero, List.drop_succ_cons, List.drop_zero, List.eraseIdx_cons_succ, List.eraseIdx_cons_zero]
      have hwR := HWS.out.trans hsR
      have harm := darm_any g r F d o.n wR (HH.out.disk.keepAll hwR)
      have HWR := Lib.hid hwR
      have HSR := Lib.hid hsR
      clear hwR hsR c0W c1W cnW
      go_wp2_with (go_at_call 24; refine stopAt ?_)
      unfold Hid
      refine harm.mono ?_
      rintro e wA ⟨rfl, hdA, hsA⟩
      have refA := (HH.out.ref.keep HWR.out trivial).keep hsA ⟨HN.out.2.2.2.1.symm, HN.out.2.2.2.2.1.symm⟩
      have rowA := (HH.out.row.keep HWR.out trivial).keep hsA ⟨HN.out.1, HN.out.2.1⟩
      have boxA := (HWB.out.keep HSR.out trivial).keep hsA ⟨by omega, by omega⟩
      have c1A := rowA.cell 1
      have cnA := boxA.cell 1
      have z5 := refA.free.2.2.1
      have y5 := refA.cells.2.2.1
      have hhA := refA.lt
      simp at c1A cnA
      have HDA := Lib.hid hdA
      have HSA := Lib.hid hsA
      have HRA := Lib.hid refA
      clear harm hdA hsA refA rowA boxA
      go_wp2
      refine wp_region_tail_lit (L := [.eq (ptr b), .eq (ptr b), .eq (.pointer (some ⟨b, 1, none⟩)), .eq (ptr h), .eq (.pointer (some ⟨w.heap.size, 1, none⟩)), .eq (.int .i64 o.n), .eq (.int .i64 (max o.n (-1))), .eq (ptr h), .eq (.pointer (some ⟨h, 5, none⟩))]) 9 (by kernel_rfl) (by kernel_rfl) rfl rfl rfl ?_ ?_
      · refine ⟨?_, ?_, ?_, ?_, ?_, ?_, ?_, ?_, ?_, trivial⟩
        · intro ac wc hs hd hz hf hw K hK
          have e0 : ac.eval (.tmp 0) = (ptr b) := hf 0 rfl
          clear hd hz hf hw
          simp only [Region.wanted, if_true, Oper.wp, execOp, resolve, List.map_toArray, List.map_cons, List.map_nil, Option.map_some, Option.map_none, e0]
          go_simp
          exact hK _ _ rfl (Same.refl _ _)
        · intro ac wc hs hd hz hf hw K hK
          have e0 : ac.eval (.tmp 23) = (ptr b) := hw 0 rfl
          clear hd hz hf hw
          simp only [Region.wanted, if_true, Oper.wp, execOp, resolve, List.map_toArray, List.map_cons, List.map_nil, Option.map_some, Option.map_none, e0]
          go_simp
          exact hK _ _ rfl (Same.refl _ _)
        · intro ac wc hs hd hz hf hw K hK
          have e0 : ac.eval (.tmp 24) = (ptr b) := hw 1 rfl
          clear hd hz hf hw
          simp only [Region.wanted, if_true, Oper.wp, execOp, resolve, List.map_toArray, List.map_cons, List.map_nil, Option.map_some, Option.map_none, e0]
          go_simp
          exact hK _ _ rfl (Same.refl _ _)
        · intro ac wc hs hd hz hf hw K hK
          have e0 : ac.eval (.tmp 25) = (.pointer (some ⟨b, 1, none⟩)) := hw 2 rfl
          have m0 : wc.cell? ⟨b, 1, none⟩ = some (ptr h) := hs.cell (p := ⟨b, 1, none⟩) trivial c1A
          clear hd hz hf hw
          simp only [Region.wanted, if_true, Oper.wp, execOp, resolve, List.map_toArray, List.map_cons, List.map_nil, Option.map_some, Option.map_none, e0]
          go_simp
          exact hK _ _ rfl (Same.refl _ _)
        · intro ac wc hs hd hz hf hw K hK
          have e0 : ac.eval (.tmp 3) = (.pointer (some ⟨w.heap.size, 0, none⟩)) := hf 3 rfl
          clear hd hz hf hw
          simp only [Region.wanted, if_true, Oper.wp, execOp, resolve, List.map_toArray, List.map_cons, List.map_nil, Option.map_some, Option.map_none, e0]
          go_simp
          exact hK _ _ rfl (Same.refl _ _)
        · intro ac wc hs hd hz hf hw K hK
          have e0 : ac.eval (.tmp 27) = (.pointer (some ⟨w.heap.size, 1, none⟩)) := hw 4 rfl
          have m0 : wc.cell? ⟨w.heap.size, 1, none⟩ = some (.int .i64 o.n) := hs.cell (p := ⟨w.heap.size, 1, none⟩) trivial cnA
          clear hd hz hf hw
          simp only [Region.wanted, if_true, Oper.wp, execOp, resolve, List.map_toArray, List.map_cons, List.map_nil, Option.map_some, Option.map_none, e0]
          go_simp
          exact hK _ _ rfl (Same.refl _ _)
        · intro ac wc hs hd hz hf hw K hK
          have e0 : ac.eval (.tmp 28) = (.int .i64 o.n) := hw 5 rfl
          clear hd hz hf hw
          simp only [Region.wanted, if_true, Oper.wp, execOp, resolve, List.map_toArray, List.map_cons, List.map_nil, Option.map_some, Option.map_none, e0]
          go_simp
          exact hK _ _ rfl (Same.refl _ _)
        · intro ac wc hs hd hz hf hw K hK
          have e0 : ac.eval (.tmp 26) = (ptr h) := hw 3 rfl
          clear hd hz hf hw
          simp only [Region.wanted, if_true, Oper.wp, execOp, resolve, List.map_toArray, List.map_cons, List.map_nil, Option.map_some, Option.map_none, e0]
          go_simp
          exact hK _ _ rfl (Same.refl _ _)
        · intro ac wc hs hd hz hf hw K hK
          have e0 : ac.eval (.tmp 30) = (ptr h) := hw 7 rfl
          clear hd hz hf hw
          simp only [Region.wanted, if_true, Oper.wp, execOp, resolve, List.map_toArray, List.map_cons, List.map_nil, Option.map_some, Option.map_none, e0]
          go_simp
          exact hK _ _ rfl (Same.refl _ _)
      · intro vs wB hvl hvp hsB
        rcases vs with _ | ⟨z0, _ | ⟨z1, _ | ⟨z2, _ | ⟨z3, _ | ⟨z4, _ | ⟨z5, _ | ⟨z6, _ | ⟨z7, _ | ⟨z8, _ | ⟨zz, zr⟩⟩⟩⟩⟩⟩⟩⟩⟩⟩
        rotate_right 1
        · simp at hvl
        · simp at hvl
        · simp at hvl
        · simp at hvl
        · simp at hvl
        · simp at hvl
        · simp at hvl
        · simp at hvl
        · simp at hvl
        · simp at hvl
        · obtain rfl : z0 = (ptr b) := hvp 0 (by omega)
          obtain rfl : z1 = (ptr b) := hvp 1 (by omega)
          obtain rfl : z2 = (.pointer (some ⟨b, 1, none⟩)) := hvp 2 (by omega)
          obtain rfl : z3 = (ptr h) := hvp 3 (by omega)
          obtain rfl : z4 = (.pointer (some ⟨w.heap.size, 1, none⟩)) := hvp 4 (by omega)
          obtain rfl : z5 = (.int .i64 o.n) := hvp 5 (by omega)
          obtain rfl : z6 = (.int .i64 (max o.n (-1))) := hvp 6 (by omega)
          obtain rfl : z7 = (ptr h) := hvp 7 (by omega)
          obtain rfl : z8 = (.pointer (some ⟨h, 5, none⟩)) := hvp 8 (by omega)
          clear hvl hvp
          simp only [putAll, Act.put, List.setIfInBounds_toArray, List.set_cons_succ, List.set_cons_zero, List.take_succ_cons, List.take_zero, List.drop_succ_cons, List.drop_zero, List.eraseIdx_cons_succ, List.eraseIdx_cons_zero]
          have zB : wB.frozen? ⟨h, 5, none⟩ = false := (HRA.out.keep hsB trivial).free.2.2.1
          have yB := (HRA.out.keep hsB trivial).cells.2.2.1
          have HSB := Lib.hid hsB
          clear hsB c1A cnA z5 y5
          go_wp2
          go_ret
          have hsC : Same (fun k => k ≠ h) wB (wB.setCell ⟨h, 5, none⟩ (.int .i64 (max o.n (-1)))) := (Same.refl _ _).setCell (fun _ h => h rfl) _
          have hF := HH.out.apart
          have hsW : Same (fun k => k ≠ g ∧ k ≠ r ∧ k ≠ h) w (wB.setCell ⟨h, 5, none⟩ (.int .i64 (max o.n (-1)))) := (((HWR.out.mono fun _ _ _ => trivial).trans (HSA.out.mono fun k _ hk => ⟨hk.1, hk.2.1⟩)).trans (HSB.out.mono fun _ _ _ => trivial)).trans (hsC.mono fun k _ hk => hk.2.2)
          exact ⟨rfl, d.arm o.n, st, F, HT.out.disks hsW ((HDA.out.keepAll HSB.out).keep hsC HN.out.2.2.2.1 HN.out.2.2.2.2.1 fun k hk => (hF k hk).2.2) ((HRA.out.keep HSB.out trivial).store 5 _ rfl), HPA.out, hsW.mono fun k _ hk => by have := HLO.out; omega⟩
set_option maxRecDepth 100000 in
set_option maxHeartbeats 1000000 in
theorem do_power (H : Twos w B0 b g r h F d st) (HP : PInv k d st) (hk : k ≤ 41) (hK : Ints w (fun k => k < B0) vk o.keep) (hki : -9223372036854775808 ≤ o.kind ∧ o.kind ≤ 9223372036854775807) (hkind : placeF o.kind 7 = 4) :
    Calls Try.prog 30 #[ptr b, .agg #[.int .i64 o.kind, .int .i64 o.n, .bool o.made, vb, vl, vk]] w (DoneP B0 b g r h k w) := by
  have hpl := fun w => place_any o.kind 7 w hki (by omega)
  rw [hkind] at hpl
  obtain ⟨pv, xv, hH⟩ := HalfW.ofTwos H
  have HH := Lib.hid hH
  have HN := Lib.hid hH.ne
  have hbox : Same (fun _ => True) w (w.alloc (.cells #[.int .i64 o.kind, .int .i64 o.n, .bool o.made, vb, vl, vk] 53)) := (Same.refl _ _).alloc _
  have HRB := Lib.hid (Row.new w 53 [.int .i64 o.kind, .int .i64 o.n, .bool o.made, vb, vl, vk])
  have HBOX := Lib.hid hbox
  have hlo := hH.lo
  have hb := hH.row.lt
  have hg := hH.disk.2.1
  have hr := hH.disk.2.2.1
  have hh := hH.ref.lt
  have HLO := Lib.hid hlo
  have HPI := Lib.hid HP
  have HKP := Lib.hid hK
  obtain ⟨AK, ck, rfl, -⟩ := id hK
  obtain ⟨NK, hNK⟩ : ∃ n, n = o.keep.length := ⟨_, rfl⟩
  have hK2 := HKP.out
  rw [← hNK] at hK2 HBOX HRB ⊢
  have HKP := Lib.hid hK2
  clear H HP hki hkind hH hbox hlo hK hNK hK2
  go_enter Try.func30, Try.ntmps30
  go_wp2_with (go_at_call 25; refine (hpl _).mono ?_; rintro e w' ⟨rfl, rfl⟩)
  obtain ⟨W, hW⟩ : ∃ W, W = w.alloc (.cells #[.int .i64 o.kind, .int .i64 o.n, .bool o.made, vb, vl, .slice AK NK ck] 53) := ⟨_, rfl⟩
  rw [← hW]
  have hWs : Same (fun _ => True) w W := hW ▸ HBOX.out
  have hWb : Row W w.heap.size 53 [.int .i64 o.kind, .int .i64 o.n, .bool o.made, vb, vl, .slice AK NK ck] := hW ▸ HRB.out
  have rowW := HH.out.row.keep hWs trivial
  have c0W := rowW.cell 0
  have c1W := rowW.cell 1
  have cnW := hWb.cell 5
  simp at c0W c1W cnW
  have HWS := Lib.hid hWs
  have HWB := Lib.hid hWb
  clear hW hWs hWb rowW hpl
  refine wp_region_tail_lit (L := [.eq (ptr b), .eq (ptr b), .eq (.pointer (some ⟨b, 0, none⟩)), .eq (ptr g), .eq (.pointer (some ⟨w.heap.size, 5, none⟩)), .eq (.slice AK NK ck)]) 6 (by kernel_rfl) (by kernel_rfl) rfl rfl rfl ?_ ?_
  · refine ⟨?_, ?_, ?_, ?_, ?_, ?_, trivial⟩
    · intro ac wc hs hd hz hf hw K hK
      have e0 : ac.eval (.tmp 0) = (ptr b) := hf 0 rfl
      clear hd hz hf hw
      simp only [Region.wanted, if_true, Oper.wp, execOp, resolve, List.map_toArray, List.map_cons, List.map_nil, Option.map_some, Option.map_none, e0]
      go_simp
      exact hK _ _ rfl (Same.refl _ _)
    · intro ac wc hs hd hz hf hw K hK
      have e0 : ac.eval (.tmp 34) = (ptr b) := hw 0 rfl
      clear hd hz hf hw
      simp only [Region.wanted, if_true, Oper.wp, execOp, resolve, List.map_toArray, List.map_cons, List.map_nil, Option.map_some, Option.map_none, e0]
      go_simp
      exact hK _ _ rfl (Same.refl _ _)
    · intro ac wc hs hd hz hf hw K hK
      have e0 : ac.eval (.tmp 35) = (ptr b) := hw 1 rfl
      clear hd hz hf hw
      simp only [Region.wanted, if_true, Oper.wp, execOp, resolve, List.map_toArray, List.map_cons, List.map_nil, Option.map_some, Option.map_none, e0]
      go_simp
      exact hK _ _ rfl (Same.refl _ _)
    · intro ac wc hs hd hz hf hw K hK
      have e0 : ac.eval (.tmp 36) = (.pointer (some ⟨b, 0, none⟩)) := hw 2 rfl
      have m0 : wc.cell? ⟨b, 0, none⟩ = some (ptr g) := hs.cell (p := ⟨b, 0, none⟩) trivial c0W
      clear hd hz hf hw
      simp only [Region.wanted, if_true, Oper.wp, execOp, resolve, List.map_toArray, List.map_cons, List.map_nil, Option.map_some, Option.map_none, e0]
      go_simp
      exact hK _ _ rfl (Same.refl _ _)
    · intro ac wc hs hd hz hf hw K hK
      have e0 : ac.eval (.tmp 3) = (.pointer (some ⟨w.heap.size, 0, none⟩)) := hf 3 rfl
      clear hd hz hf hw
      simp only [Region.wanted, if_true, Oper.wp, execOp, resolve, List.map_toArray, List.map_cons, List.map_nil, Option.map_some, Option.map_none, e0]
      go_simp
      exact hK _ _ rfl (Same.refl _ _)
    · intro ac wc hs hd hz hf hw K hK
      have e0 : ac.eval (.tmp 38) = (.pointer (some ⟨w.heap.size, 5, none⟩)) := hw 4 rfl
      have m0 : wc.cell? ⟨w.heap.size, 5, none⟩ = some (.slice AK NK ck) := hs.cell (p := ⟨w.heap.size, 5, none⟩) trivial cnW
      clear hd hz hf hw
      simp only [Region.wanted, if_true, Oper.wp, execOp, resolve, List.map_toArray, List.map_cons, List.map_nil, Option.map_some, Option.map_none, e0]
      go_simp
      exact hK _ _ rfl (Same.refl _ _)
  · intro vs wR hvl hvp hsR
    rcases vs with _ | ⟨z0, _ | ⟨z1, _ | ⟨z2, _ | ⟨z3, _ | ⟨z4, _ | ⟨z5, _ | ⟨zz, zr⟩⟩⟩⟩⟩⟩⟩
    rotate_right 1
    · simp at hvl
    · simp at hvl
    · simp at hvl
    · simp at hvl
    · simp at hvl
    · simp at hvl
    · simp at hvl
    · obtain rfl : z0 = (ptr b) := hvp 0 (by omega)
      obtain rfl : z1 = (ptr b) := hvp 1 (by omega)
      obtain rfl : z2 = (.pointer (some ⟨b, 0, none⟩)) := hvp 2 (by omega)
      obtain rfl : z3 = (ptr g) := hvp 3 (by omega)
      obtain rfl : z4 = (.pointer (some ⟨w.heap.size, 5, none⟩)) := hvp 4 (by omega)
      obtain rfl : z5 = (.slice AK NK ck) := hvp 5 (by omega)
      clear hvl hvp
      simp only [putAll, Act.put, List.setIfInBounds_toArray, List.set_cons_succ, List.set_cons_zero, List.take_succ_cons, List.take_zero, List.drop_succ_cons, List.drop_zero, List.eraseIdx_cons_succ, List.eraseIdx_cons_zero]
      have hwR := HWS.out.trans hsR
      have hpw := dpower_any g r F _ d o.keep _ wR (HH.out.disk.keepAll hwR) HPI.out.ok (HKP.out.keep (hwR.mono fun _ _ _ => trivial)) (fun k (hk : k < B0) => by have := hwR.size; have := HLO.out; exact ⟨by omega, by omega, by omega⟩) ⟨by have := HPI.out.len.f0; omega, by have := HPI.out.len.f1; omega⟩ (by have := HPI.out.lives; omega)
      have HWR := Lib.hid hwR
      have HSR := Lib.hid hsR
      clear hwR hsR c0W c1W cnW
      go_wp2_with (go_at_call 20; refine stopAt ?_)
      unfold Hid
      refine hpw.mono ?_
      rintro e wA ⟨rfl, hdA, hsA⟩
      have refA := (HH.out.ref.keep HWR.out trivial).keep hsA ⟨HN.out.2.2.2.1.symm, HN.out.2.2.2.2.1.symm⟩
      have rowA := (HH.out.row.keep HWR.out trivial).keep hsA ⟨HN.out.1, HN.out.2.1⟩
      have boxA := (HWB.out.keep HSR.out trivial).keep hsA ⟨by omega, by omega⟩
      have c1A := rowA.cell 1
      have cnA := boxA.cell 5
      simp at c1A cnA
      have HDA := Lib.hid hdA
      have HSA := Lib.hid hsA
      have HRA := Lib.hid refA
      clear hpw hdA hsA refA rowA boxA
      go_wp2
      refine wp_region_tail_lit (L := [.eq (ptr b), .eq (ptr b), .eq (.pointer (some ⟨b, 1, none⟩)), .eq (ptr h), .eq (.pointer (some ⟨w.heap.size, 5, none⟩)), .eq (.slice AK NK ck)]) 6 (by kernel_rfl) (by kernel_rfl) rfl rfl rfl ?_ ?_
      · refine ⟨?_, ?_, ?_, ?_, ?_, ?_, trivial⟩
        · intro ac wc hs hd hz hf hw K hK
          have e0 : ac.eval (.tmp 0) = (ptr b) := hf 0 rfl
          clear hd hz hf hw
          simp only [Region.wanted, if_true, Oper.wp, execOp, resolve, List.map_toArray, List.map_cons, List.map_nil, Option.map_some, Option.map_none, e0]
          go_simp
          exact hK _ _ rfl (Same.refl _ _)
        · intro ac wc hs hd hz hf hw K hK
          have e0 : ac.eval (.tmp 41) = (ptr b) := hw 0 rfl
          clear hd hz hf hw
          simp only [Region.wanted, if_true, Oper.wp, execOp, resolve, List.map_toArray, List.map_cons, List.map_nil, Option.map_some, Option.map_none, e0]
          go_simp
          exact hK _ _ rfl (Same.refl _ _)
        · intro ac wc hs hd hz hf hw K hK
          have e0 : ac.eval (.tmp 42) = (ptr b) := hw 1 rfl
          clear hd hz hf hw
          simp only [Region.wanted, if_true, Oper.wp, execOp, resolve, List.map_toArray, List.map_cons, List.map_nil, Option.map_some, Option.map_none, e0]
          go_simp
          exact hK _ _ rfl (Same.refl _ _)
        · intro ac wc hs hd hz hf hw K hK
          have e0 : ac.eval (.tmp 43) = (.pointer (some ⟨b, 1, none⟩)) := hw 2 rfl
          have m0 : wc.cell? ⟨b, 1, none⟩ = some (ptr h) := hs.cell (p := ⟨b, 1, none⟩) trivial c1A
          clear hd hz hf hw
          simp only [Region.wanted, if_true, Oper.wp, execOp, resolve, List.map_toArray, List.map_cons, List.map_nil, Option.map_some, Option.map_none, e0]
          go_simp
          exact hK _ _ rfl (Same.refl _ _)
        · intro ac wc hs hd hz hf hw K hK
          have e0 : ac.eval (.tmp 3) = (.pointer (some ⟨w.heap.size, 0, none⟩)) := hf 3 rfl
          clear hd hz hf hw
          simp only [Region.wanted, if_true, Oper.wp, execOp, resolve, List.map_toArray, List.map_cons, List.map_nil, Option.map_some, Option.map_none, e0]
          go_simp
          exact hK _ _ rfl (Same.refl _ _)
        · intro ac wc hs hd hz hf hw K hK
          have e0 : ac.eval (.tmp 45) = (.pointer (some ⟨w.heap.size, 5, none⟩)) := hw 4 rfl
          have m0 : wc.cell? ⟨w.heap.size, 5, none⟩ = some (.slice AK NK ck) := hs.cell (p := ⟨w.heap.size, 5, none⟩) trivial cnA
          clear hd hz hf hw
          simp only [Region.wanted, if_true, Oper.wp, execOp, resolve, List.map_toArray, List.map_cons, List.map_nil, Option.map_some, Option.map_none, e0]
          go_simp
          exact hK _ _ rfl (Same.refl _ _)
      · intro vs wB hvl hvp hsB
        rcases vs with _ | ⟨z0, _ | ⟨z1, _ | ⟨z2, _ | ⟨z3, _ | ⟨z4, _ | ⟨z5, _ | ⟨zz, zr⟩⟩⟩⟩⟩⟩⟩
        rotate_right 1
        · simp at hvl
        · simp at hvl
        · simp at hvl
        · simp at hvl
        · simp at hvl
        · simp at hvl
        · simp at hvl
        · obtain rfl : z0 = (ptr b) := hvp 0 (by omega)
          obtain rfl : z1 = (ptr b) := hvp 1 (by omega)
          obtain rfl : z2 = (.pointer (some ⟨b, 1, none⟩)) := hvp 2 (by omega)
          obtain rfl : z3 = (ptr h) := hvp 3 (by omega)
          obtain rfl : z4 = (.pointer (some ⟨w.heap.size, 5, none⟩)) := hvp 4 (by omega)
          obtain rfl : z5 = (.slice AK NK ck) := hvp 5 (by omega)
          clear hvl hvp
          simp only [putAll, Act.put, List.setIfInBounds_toArray, List.set_cons_succ, List.set_cons_zero, List.take_succ_cons, List.take_zero, List.drop_succ_cons, List.drop_zero, List.eraseIdx_cons_succ, List.eraseIdx_cons_zero]
          have hrp := rpower_any h _ d o.keep _ wB (HRA.out.keep hsB trivial) HPI.out.ok (((HKP.out.keep (HWR.out.mono fun _ _ _ => trivial)).keep (HSA.out.mono fun k _ (hk : k < B0) => by have := HLO.out; exact ⟨by omega, by omega⟩)).keep (hsB.mono fun _ _ _ => trivial)) (fun k (hk : k < B0) => by have := HLO.out; omega) ⟨by have := HPI.out.len.f0; omega, by have := HPI.out.len.f1; omega⟩ (by have := HPI.out.lives; omega)
          have HSB := Lib.hid hsB
          clear hsB c1A cnA
          go_wp2_with (go_at_call 49; refine stopAt ?_)
          unfold Hid
          refine hrp.mono ?_
          rintro e wC ⟨rfl, hrC, hsC⟩
          have hF := HH.out.apart
          have hsW : Same (fun k => k ≠ g ∧ k ≠ r ∧ k ≠ h) w wC := (((HWR.out.mono fun _ _ _ => trivial).trans (HSA.out.mono fun k _ hk => ⟨hk.1, hk.2.1⟩)).trans (HSB.out.mono fun _ _ _ => trivial)).trans (hsC.mono fun k _ hk => hk.2.2)
          have hH2 := HH.out.disks hsW ((HDA.out.keepAll HSB.out).keep hsC HN.out.2.2.2.1 HN.out.2.2.2.2.1 fun k hk => (hF k hk).2.2) hrC
          have hop := open_done (k := k) wC hH2 ⟨(power_ok HPI.out.ok _).armed, by show d.steps < _; have := HPI.out.steps; omega⟩ (by show d.steps + 3 < _; have := HPI.out.steps; omega) ((HPI.out.len.power _).mono (by omega)) hk fun m0 m1 h0 h1 => HPI.out.powered _ hk h0 h1
          have HSW := Lib.hid hsW
          clear hrp hrC hsC hF hsW hH2
          go_wp2_with (go_at_call 29; refine hop.mono ?_; rintro e w2 ⟨rfl, d2, st2, F2, hT2, hP2, hs2⟩)
          go_ret
          exact ⟨rfl, d2, st2, F2, hT2, hP2, (HSW.out.mono fun k _ (hk : k < B0) => by have := HLO.out; exact ⟨by omega, by omega, by omega⟩).trans hs2⟩
end
end Go.Proofs.Ytpjinngngbifoaa
