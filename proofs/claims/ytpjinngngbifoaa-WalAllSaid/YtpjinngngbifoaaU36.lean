/-
  Words, plain models, laws and walks that the claims of this layer share (joined by shake.py). No condition.
-/
import Derived.Test.YtpjinngngbifoaaU1
import Derived.Test.YtpjinngngbifoaaU2
import Derived.Test.YtpjinngngbifoaaU3
import Derived.Test.YtpjinngngbifoaaU4
import Derived.Test.YtpjinngngbifoaaU5
import Derived.Test.YtpjinngngbifoaaU6
import Derived.Test.YtpjinngngbifoaaU7
import Derived.Test.YtpjinngngbifoaaU8
import Derived.Test.YtpjinngngbifoaaU9
import Derived.Test.YtpjinngngbifoaaU10
import Derived.Test.YtpjinngngbifoaaU11
import Derived.Test.YtpjinngngbifoaaU12
import Derived.Test.YtpjinngngbifoaaU13
import Derived.Test.YtpjinngngbifoaaU14
import Derived.Test.YtpjinngngbifoaaU15
import Derived.Test.YtpjinngngbifoaaU16
import Derived.Test.YtpjinngngbifoaaU17
import Derived.Test.YtpjinngngbifoaaU18
import Derived.Test.YtpjinngngbifoaaU19
import Derived.Test.YtpjinngngbifoaaU20
import Derived.Test.YtpjinngngbifoaaU21
import Derived.Test.YtpjinngngbifoaaU22
import Derived.Test.YtpjinngngbifoaaU23
import Derived.Test.YtpjinngngbifoaaU24
import Derived.Test.YtpjinngngbifoaaU25
import Derived.Test.YtpjinngngbifoaaU26
import Derived.Test.YtpjinngngbifoaaU27
import Derived.Test.YtpjinngngbifoaaU28
import Derived.Test.YtpjinngngbifoaaU29
import Derived.Test.YtpjinngngbifoaaU30
import Derived.Test.YtpjinngngbifoaaU31
import Derived.Test.YtpjinngngbifoaaU32
import Derived.Test.YtpjinngngbifoaaU33
import Derived.Test.YtpjinngngbifoaaU34
import Derived.Test.YtpjinngngbifoaaU35
set_option linter.unusedSimpArgs false
set_option linter.unusedVariables false
namespace Go.Proofs.Ytpjinngngbifoaa
open Go.RowKit
/-- The two disks between two calls. -/
def HMid (B0 b g r h : Nat) (pv xv : Value) (dc dr : DiskM) (w : World) : Prop :=
  ∃ F, Row w b 62 [ptr g, ptr h, pv, xv] ∧ DiskAt w g r F dc ∧ RefAt w h dr ∧ (∀ k, F k → B0 ≤ k ∧ k ≠ b ∧ k ≠ h) ∧ (B0 ≤ b ∧ B0 ≤ g ∧ B0 ≤ r ∧ B0 ≤ h)
section
variable {w : World} {B0 b g r h f : Nat} {pv xv : Value} {dc dr d1 : DiskM} {args : Array Value} {y : Int}
theorem HMid.keepAll {w' : World} (H : HMid B0 b g r h pv xv dc dr w) (hs : Same (fun _ => True) w w') : HMid B0 b g r h pv xv dc dr w' := by
  obtain ⟨F, h1, h2, h3, h4, h5⟩ := H
  exact ⟨F, h1.keep hs trivial, h2.keepAll hs, h3.keep hs trivial, h4, h5⟩
theorem HMid.code (H : HMid B0 b g r h pv xv dc dr w) (hc : ∀ F, DiskAt w g r F dc → Calls Try.prog f args w (APost g r F w y d1)) :
    Calls Try.prog f args w fun e w' => e = .returned (.int .i64 y) ∧ HMid B0 b g r h pv xv d1 dr w' ∧ Same (fun k => k ≠ g ∧ k ≠ r) w w' := by
  obtain ⟨F, h1, h2, h3, h4, h5⟩ := H
  refine (hc F h2).mono ?_
  rintro e w' ⟨rfl, ⟨F', hF', hd⟩, hs⟩
  refine ⟨rfl, ⟨F', h1.keep hs ⟨h1.ne h2.1 (by decide), map_ne h2 h1⟩, hd, h3.keep hs ⟨Row.ne h3 h2.1 (by decide), map_ne h2 h3⟩, fun k hk => ?_, h5⟩, hs⟩
  rcases hF' k hk with q | q
  · exact h4 k q
  · have := h1.lt
    have := h3.lt
    exact ⟨by omega, by omega, by omega⟩
theorem HMid.doc (H : HMid B0 b g r h pv xv dc dr w) (hc : RefAt w h dr → Calls Try.prog f args w (RStep h w (.int .i64 y) d1)) :
    Calls Try.prog f args w fun e w' => e = .returned (.int .i64 y) ∧ HMid B0 b g r h pv xv dc d1 w' ∧ Same (fun k => k ≠ h) w w' := by
  obtain ⟨F, h1, h2, h3, h4, h5⟩ := H
  refine (hc h3).mono ?_
  rintro e w' ⟨rfl, hr, hs⟩
  exact ⟨rfl, ⟨F, h1.keep hs (h1.ne h3 (by decide)), h2.keep hs (h2.1.ne h3 (by decide)) (map_ne h2 h3).symm (fun k hk => (h4 k hk).2.2), hr, h4, h5⟩, hs⟩
theorem HMid.half (H : HMid B0 b g r h pv xv d1 d1 w) : ∃ F, HalfW w B0 b g r h F d1 pv xv := by
  obtain ⟨F, h1, h2, h3, h4, h5⟩ := H
  exact ⟨F, h1, h2, h3, h4, h5⟩
theorem HalfW.hmid {F : Nat → Prop} {d : DiskM} (H : HalfW w B0 b g r h F d pv xv) : HMid B0 b g r h pv xv d d w := ⟨F, H.row, H.disk, H.ref, H.apart, H.lo⟩
end
theorem By_nil (w : World) : By w (fun _ => True) (.slice none 0 0) [] := ⟨none, 0, rfl, by simp, by simp [maxLen], Sl.nil _ _ _ _⟩
section
variable (B0 b g r h k : Nat) (F : Nat → Prop) (d : DiskM) (st : StM) (o : OpW) (vb vl vk : Value) (w : World)
set_option maxRecDepth 100000 in
set_option maxHeartbeats 2000000 in
theorem do_hand_raw (H : Twos w B0 b g r h F d st) (HP : PInv k d st) (hk : k ≤ 41) (hB : By w (fun k => k < B0) vb o.b) (ho : o.b.length ≤ 300) (hki : -9223372036854775808 ≤ o.kind ∧ o.kind ≤ 9223372036854775807) (hn : -9223372036854775808 ≤ o.n ∧ o.n ≤ 9223372036854775807) (hkind : placeF o.kind 7 = 6) (hmade : o.made = false) :
    Calls Try.prog 30 #[ptr b, .agg #[.int .i64 o.kind, .int .i64 o.n, .bool o.made, vb, vl, vk]] w (DoneP B0 b g r h k w) := by
  have hpl := fun w => place_any o.kind 7 w hki (by omega)
  rw [hkind] at hpl
  rw [hmade]
  obtain ⟨pv, xv, hH⟩ := HalfW.ofTwos H
  have hlen := HP.len.file o.n
  have hfit := HP.fit (by omega)
  obtain ⟨xs, hxs, hx4⟩ : ∃ xs, xs = o.b ∧ xs.length ≤ 400 := ⟨_, rfl, by omega⟩
  have hcd : ∀ wc, RefAt wc h d → Calls Try.prog 50 #[ptr h, .int .i64 o.n, .string (str xs)] wc (RStep h wc (.int .i64 (d.append o.n xs).1) (d.append o.n xs).2) := fun wc hr => rappend_any h d o.n xs wc hr hfit (by omega)
  have hcc : ∀ wc F S v, DiskAt wc g r F d → By wc S v xs → Calls Try.prog 13 #[ptr g, .int .i64 o.n, v] wc (APost g r F wc (d.append o.n xs).1 (d.append o.n xs).2) := fun wc F S v hd hv => dappend_any g r F S d o.n v xs wc hd hfit hv (by omega)
  have hkp := append_kept (f := o.n) (b := xs) (HP.len.mono (m := 2200 + 400 * (k + 1)) (by omega)) HP.ok.armed (by omega)
  have hop : ∀ W F2, HalfW W B0 b g r h F2 (d.append o.n xs).2 pv xv → Calls Try.prog 29 #[ptr b] W (DoneP B0 b g r h k W) := fun W F2 hH => open_done (k := k) W hH ⟨hkp.armed, by have := hkp.steps; have := HP.steps; omega⟩ (by have := hkp.steps; have := HP.steps; omega) (hkp.len.mono (by omega)) hk fun m0 m1 h0 h1 => HP.byHand o.n hx4 hk h0 h1
  obtain ⟨X, hX⟩ : ∃ X, X = (d.append o.n xs).1 := ⟨_, rfl⟩
  obtain ⟨d1, hd1⟩ : ∃ d1, d1 = (d.append o.n xs).2 := ⟨_, rfl⟩
  rw [← hX, ← hd1] at hcc hcd
  rw [← hd1] at hop
  have HCC := Lib.hid hcc
  have HOP := Lib.hid hop
  have HH := Lib.hid hH
  have HN := Lib.hid hH.ne
  have HXS := Lib.hid hxs
  have hbox : Same (fun _ => True) w (w.alloc (.cells #[.int .i64 o.kind, .int .i64 o.n, .bool false, vb, vl, vk] 53)) := (Same.refl _ _).alloc _
  have HRB := Lib.hid (Row.new w 53 [.int .i64 o.kind, .int .i64 o.n, .bool false, vb, vl, vk])
  have HBOX := Lib.hid hbox
  have hlo := hH.lo
  have hb := hH.row.lt
  have hg := hH.disk.2.1
  have hr := hH.disk.2.2.1
  have hh := hH.ref.lt
  have HLO := Lib.hid hlo
  have HB := Lib.hid hB
  obtain ⟨A2, cb, rfl, -, hmb, -⟩ := id hB
  unfold maxLen at hmb
  clear H HP hki hkind hH hbox hlo hB hcc hop hX hd1 hkp hlen hfit hmade hxs
  go_enter Try.func30, Try.ntmps30
  go_wp2_with (go_at_call 25; refine (hpl _).mono ?_; rintro e w' ⟨rfl, rfl⟩)
  obtain ⟨W, hW⟩ : ∃ W, W = w.alloc (.cells #[.int .i64 o.kind, .int .i64 o.n, .bool false, .slice A2 o.b.length cb, vl, vk] 53) := ⟨_, rfl⟩
  rw [← hW]
  have hWs : Same (fun _ => True) w W := hW ▸ HBOX.out
  have hWb : Row W w.heap.size 53 [.int .i64 o.kind, .int .i64 o.n, .bool false, .slice A2 o.b.length cb, vl, vk] := hW ▸ HRB.out
  obtain rfl := HXS.out
  obtain ⟨AX, cx, hAX⟩ : ∃ AX cx, (Value.slice AX o.b.length cx) = .slice A2 o.b.length cb := ⟨_, _, rfl⟩
  rw [← hAX] at hWb HB ⊢
  have hXW : By W (fun k => k < B0 ∨ w.heap.size ≤ k) (.slice AX o.b.length cx) o.b := (HB.out.keep (hWs.mono fun _ _ _ => trivial)).mono fun k _ hk => .inl hk
  have hHW := HH.out.keepAll hWs
  have HWS := Lib.hid hWs
  clear hW hWs hpl hAX
  have hcvX : ∀ wc, Same (fun k => k ≠ g ∧ k ≠ r ∧ k ≠ h) W wc → (convert 24 9 (.slice AX o.b.length cx)).run Try.prog wc = .ok (.string (str o.b)) wc := fun wc hs => conv_by (hXW.keep (hs.mono fun k _ hk => by have := HLO.out; omega))
  have hcc : ∀ wc, Same (fun k => k ≠ g ∧ k ≠ r ∧ k ≠ h) W wc → ∀ F, DiskAt wc g r F d → Calls Try.prog 13 #[ptr g, .int .i64 o.n, .slice AX o.b.length cx] wc (APost g r F wc X d1) := fun wc hs F hd => HCC.out wc F _ _ hd (hXW.keep (hs.mono fun k _ hk => by have := HLO.out; omega))
  have HCVX := Lib.hid hcvX
  have hst0 := (hHW.hmid).keepAll (Same.refl _ _).drew
  have rowW := hHW.row
  have c0W := rowW.cell 0
  have c1W := rowW.cell 1
  have cnW := hWb.cell 1
  simp at c0W c1W cnW
  have hTb : (fun k => k ≠ g ∧ k ≠ r ∧ k ≠ h) b := ⟨HN.out.1, HN.out.2.1, HN.out.2.2.1⟩
  have hTo : (fun k => k ≠ g ∧ k ≠ r ∧ k ≠ h) w.heap.size := ⟨by omega, by omega, by omega⟩
  clear rowW hWb hXW hcvX
  refine wp_region_st_lit (T := fun k => k ≠ g ∧ k ≠ r ∧ k ≠ h) (L := [.eq (ptr b), .eq (ptr b), .eq (.pointer (some ⟨b, 0, none⟩)), .eq (ptr g), .eq (.pointer (some ⟨w.heap.size, 1, none⟩)), .eq (.int .i64 o.n), .eq (.slice AX o.b.length cx), .eq (.int .i64 X), .eq (ptr b), .eq (ptr b), .eq (.pointer (some ⟨b, 1, none⟩)), .eq (ptr h), .eq (.pointer (some ⟨w.heap.size, 1, none⟩)), .eq (.int .i64 o.n), .eq (.slice AX o.b.length cx), .eq (.string (str o.b)), .eq (.int .i64 X), .eq (.bool true), .eq (.bool true)]) (fun f Wx => HMid B0 b g r h pv xv (cond (f 7) d1 d) (cond (f 16) d1 d) Wx) 19 (by kernel_rfl) (by kernel_rfl) rfl ?_ ?_ ?_
  · exact hst0
  · refine ⟨?_, ?_, ?_, ?_, ?_, ?_, ?_, ?_, ?_, ?_, ?_, ?_, ?_, ?_, ?_, ?_, ?_, ?_, ?_, trivial⟩
    · intro ac wc f hs hst hni hwt hd hz hf hw K hK
      have e0 : ac.eval (.tmp 0) = (ptr b) := hf 0 rfl
      clear hd hz hf hw
      simp only [Region.wanted, if_true, Oper.wp, execOp, resolve, List.map_toArray, List.map_cons, List.map_nil, Option.map_some, Option.map_none, e0]
      go_simp
      exact hK _ _ rfl (Same.refl _ _) hst
    · intro ac wc f hs hst hni hwt hd hz hf hw K hK
      have e0 : ac.eval (.tmp 66) = (ptr b) := hw 0 rfl
      clear hd hz hf hw
      simp only [Region.wanted, if_true, Oper.wp, execOp, resolve, List.map_toArray, List.map_cons, List.map_nil, Option.map_some, Option.map_none, e0]
      go_simp
      exact hK _ _ rfl (Same.refl _ _) hst
    · intro ac wc f hs hst hni hwt hd hz hf hw K hK
      have e0 : ac.eval (.tmp 67) = (ptr b) := hw 1 rfl
      clear hd hz hf hw
      simp only [Region.wanted, if_true, Oper.wp, execOp, resolve, List.map_toArray, List.map_cons, List.map_nil, Option.map_some, Option.map_none, e0]
      go_simp
      exact hK _ _ rfl (Same.refl _ _) hst
    · intro ac wc f hs hst hni hwt hd hz hf hw K hK
      have e0 : ac.eval (.tmp 68) = (.pointer (some ⟨b, 0, none⟩)) := hw 2 rfl
      have m0 : wc.cell? ⟨b, 0, none⟩ = some (ptr g) := hs.cell (p := ⟨b, 0, none⟩) hTb c0W
      clear hd hz hf hw
      simp only [Region.wanted, if_true, Oper.wp, execOp, resolve, List.map_toArray, List.map_cons, List.map_nil, Option.map_some, Option.map_none, e0]
      go_simp
      exact hK _ _ rfl (Same.refl _ _) hst
    · intro ac wc f hs hst hni hwt hd hz hf hw K hK
      have e0 : ac.eval (.tmp 3) = (.pointer (some ⟨w.heap.size, 0, none⟩)) := hf 3 rfl
      clear hd hz hf hw
      simp only [Region.wanted, if_true, Oper.wp, execOp, resolve, List.map_toArray, List.map_cons, List.map_nil, Option.map_some, Option.map_none, e0]
      go_simp
      exact hK _ _ rfl (Same.refl _ _) hst
    · intro ac wc f hs hst hni hwt hd hz hf hw K hK
      have e0 : ac.eval (.tmp 70) = (.pointer (some ⟨w.heap.size, 1, none⟩)) := hw 4 rfl
      have m0 : wc.cell? ⟨w.heap.size, 1, none⟩ = some (.int .i64 o.n) := hs.cell (p := ⟨w.heap.size, 1, none⟩) hTo cnW
      clear hd hz hf hw
      simp only [Region.wanted, if_true, Oper.wp, execOp, resolve, List.map_toArray, List.map_cons, List.map_nil, Option.map_some, Option.map_none, e0]
      go_simp
      exact hK _ _ rfl (Same.refl _ _) hst
    · intro ac wc f hs hst hni hwt hd hz hf hw K hK
      have e0 : ac.eval (.tmp 5) = (.slice AX o.b.length cx) := hf 5 rfl
      clear hd hz hf hw
      simp only [Region.wanted, if_true, Oper.wp, execOp, resolve, List.map_toArray, List.map_cons, List.map_nil, Option.map_some, Option.map_none, e0]
      go_simp
      exact hK _ _ rfl (Same.refl _ _) hst
    · intro ac wc f hs hst hni hwt hd hz hf hw K hK
      have e0 : ac.eval (.tmp 69) = (ptr g) := hw 3 rfl
      have e1 : ac.eval (.tmp 71) = (.int .i64 o.n) := hw 5 rfl
      have e2 : ac.eval (.tmp 72) = (.slice AX o.b.length cx) := hw 6 rfl
      clear hd hz hf hw
      simp only [Region.wanted, if_true, Oper.wp, execOp, resolve, List.map_toArray, List.map_cons, List.map_nil, Option.map_some, Option.map_none, e0, e1, e2]
      go_simp
      have hM : HMid B0 b g r h pv xv d (cond (f 16) d1 d) wc := by have q := hst; rw [hni] at q; exact q
      refine (hM.code (fun F hd => hcc wc hs F hd)).mono ?_
      rintro e w' ⟨rfl, hM', hs'⟩
      exact hK _ _ rfl (hs'.mono fun k _ hk => ⟨hk.1, hk.2.1⟩) hM'
    · intro ac wc f hs hst hni hwt hd hz hf hw K hK
      have e0 : ac.eval (.tmp 0) = (ptr b) := hf 0 rfl
      clear hd hz hf hw
      simp only [Region.wanted, if_true, Oper.wp, execOp, resolve, List.map_toArray, List.map_cons, List.map_nil, Option.map_some, Option.map_none, e0]
      go_simp
      exact hK _ _ rfl (Same.refl _ _) hst
    · intro ac wc f hs hst hni hwt hd hz hf hw K hK
      have e0 : ac.eval (.tmp 74) = (ptr b) := hw 8 rfl
      clear hd hz hf hw
      simp only [Region.wanted, if_true, Oper.wp, execOp, resolve, List.map_toArray, List.map_cons, List.map_nil, Option.map_some, Option.map_none, e0]
      go_simp
      exact hK _ _ rfl (Same.refl _ _) hst
    · intro ac wc f hs hst hni hwt hd hz hf hw K hK
      have e0 : ac.eval (.tmp 75) = (ptr b) := hw 9 rfl
      clear hd hz hf hw
      simp only [Region.wanted, if_true, Oper.wp, execOp, resolve, List.map_toArray, List.map_cons, List.map_nil, Option.map_some, Option.map_none, e0]
      go_simp
      exact hK _ _ rfl (Same.refl _ _) hst
    · intro ac wc f hs hst hni hwt hd hz hf hw K hK
      have e0 : ac.eval (.tmp 76) = (.pointer (some ⟨b, 1, none⟩)) := hw 10 rfl
      have m0 : wc.cell? ⟨b, 1, none⟩ = some (ptr h) := hs.cell (p := ⟨b, 1, none⟩) hTb c1W
      clear hd hz hf hw
      simp only [Region.wanted, if_true, Oper.wp, execOp, resolve, List.map_toArray, List.map_cons, List.map_nil, Option.map_some, Option.map_none, e0]
      go_simp
      exact hK _ _ rfl (Same.refl _ _) hst
    · intro ac wc f hs hst hni hwt hd hz hf hw K hK
      have e0 : ac.eval (.tmp 3) = (.pointer (some ⟨w.heap.size, 0, none⟩)) := hf 3 rfl
      clear hd hz hf hw
      simp only [Region.wanted, if_true, Oper.wp, execOp, resolve, List.map_toArray, List.map_cons, List.map_nil, Option.map_some, Option.map_none, e0]
      go_simp
      exact hK _ _ rfl (Same.refl _ _) hst
    · intro ac wc f hs hst hni hwt hd hz hf hw K hK
      have e0 : ac.eval (.tmp 78) = (.pointer (some ⟨w.heap.size, 1, none⟩)) := hw 12 rfl
      have m0 : wc.cell? ⟨w.heap.size, 1, none⟩ = some (.int .i64 o.n) := hs.cell (p := ⟨w.heap.size, 1, none⟩) hTo cnW
      clear hd hz hf hw
      simp only [Region.wanted, if_true, Oper.wp, execOp, resolve, List.map_toArray, List.map_cons, List.map_nil, Option.map_some, Option.map_none, e0]
      go_simp
      exact hK _ _ rfl (Same.refl _ _) hst
    · intro ac wc f hs hst hni hwt hd hz hf hw K hK
      have e0 : ac.eval (.tmp 5) = (.slice AX o.b.length cx) := hf 5 rfl
      clear hd hz hf hw
      simp only [Region.wanted, if_true, Oper.wp, execOp, resolve, List.map_toArray, List.map_cons, List.map_nil, Option.map_some, Option.map_none, e0]
      go_simp
      exact hK _ _ rfl (Same.refl _ _) hst
    · intro ac wc f hs hst hni hwt hd hz hf hw K hK
      have e0 : ac.eval (.tmp 80) = (.slice AX o.b.length cx) := hw 14 rfl
      have hcvw := HCVX.out wc hs
      clear hd hz hf hw
      simp only [Region.wanted, if_true, Oper.wp, execOp, resolve, List.map_toArray, List.map_cons, List.map_nil, Option.map_some, Option.map_none, e0]
      go_simp
      exact hK _ _ rfl (Same.refl _ _) hst
    · intro ac wc f hs hst hni hwt hd hz hf hw K hK
      have e0 : ac.eval (.tmp 77) = (ptr h) := hw 11 rfl
      have e1 : ac.eval (.tmp 79) = (.int .i64 o.n) := hw 13 rfl
      have e2 : ac.eval (.tmp 81) = (.string (str o.b)) := hw 15 rfl
      clear hd hz hf hw
      simp only [Region.wanted, if_true, Oper.wp, execOp, resolve, List.map_toArray, List.map_cons, List.map_nil, Option.map_some, Option.map_none, e0, e1, e2]
      go_simp
      have hM : HMid B0 b g r h pv xv (cond (f 7) d1 d) d wc := by have q := hst; rw [hni] at q; exact q
      refine (hM.doc (fun hr => hcd wc hr)).mono ?_
      rintro e w' ⟨rfl, hM', hs'⟩
      exact hK _ _ rfl (hs'.mono fun k _ hk => hk.2.2) hM'
    · intro ac wc f hs hst hni hwt hd hz hf hw K hK
      have e0 : ac.eval (.tmp 73) = (.int .i64 X) := hw 7 rfl
      have e1 : ac.eval (.tmp 82) = (.int .i64 X) := hw 16 rfl
      clear hd hz hf hw
      simp only [Region.wanted, if_true, Oper.wp, execOp, resolve, List.map_toArray, List.map_cons, List.map_nil, Option.map_some, Option.map_none, e0, e1]
      go_simp
      exact hK _ _ rfl (Same.refl _ _) hst
    · intro ac wc f hs hst hni hwt hd hz hf hw K hK
      have e0 : ac.eval (.tmp 83) = (.bool true) := hw 17 rfl
      clear hd hz hf hw
      simp only [Region.wanted, if_true, Oper.wp, execOp, resolve, List.map_toArray, List.map_cons, List.map_nil, Option.map_some, Option.map_none, e0]
      go_simp
      exact hK _ _ rfl (Same.refl _ _) hst
  · intro vs wR f hvl hvp hsR hst hfR
    rcases vs with _ | ⟨z0, _ | ⟨z1, _ | ⟨z2, _ | ⟨z3, _ | ⟨z4, _ | ⟨z5, _ | ⟨z6, _ | ⟨z7, _ | ⟨z8, _ | ⟨z9, _ | ⟨z10, _ | ⟨z11, _ | ⟨z12, _ | ⟨z13, _ | ⟨z14, _ | ⟨z15, _ | ⟨z16, _ | ⟨z17, _ | ⟨z18, _ | ⟨zz, zr⟩⟩⟩⟩⟩⟩⟩⟩⟩⟩⟩⟩⟩⟩⟩⟩⟩⟩⟩⟩
    rotate_right 1
    · simp at hvl
    · simp at hvl
    · simp at hvl
    · simp at hvl
    · simp at hvl
    · simp at hvl
    · simp at hvl
    · simp at hvl
    · simp at hvl
    · simp at hvl
    · simp at hvl
    · simp at hvl
    · simp at hvl
    · simp at hvl
    · simp at hvl
    · simp at hvl
    · simp at hvl
    · simp at hvl
    · simp at hvl
    · simp at hvl
    · obtain rfl : z0 = (ptr b) := hvp 0 (by omega)
      obtain rfl : z1 = (ptr b) := hvp 1 (by omega)
      obtain rfl : z2 = (.pointer (some ⟨b, 0, none⟩)) := hvp 2 (by omega)
      obtain rfl : z3 = (ptr g) := hvp 3 (by omega)
      obtain rfl : z4 = (.pointer (some ⟨w.heap.size, 1, none⟩)) := hvp 4 (by omega)
      obtain rfl : z5 = (.int .i64 o.n) := hvp 5 (by omega)
      obtain rfl : z6 = (.slice AX o.b.length cx) := hvp 6 (by omega)
      obtain rfl : z7 = (.int .i64 X) := hvp 7 (by omega)
      obtain rfl : z8 = (ptr b) := hvp 8 (by omega)
      obtain rfl : z9 = (ptr b) := hvp 9 (by omega)
      obtain rfl : z10 = (.pointer (some ⟨b, 1, none⟩)) := hvp 10 (by omega)
      obtain rfl : z11 = (ptr h) := hvp 11 (by omega)
      obtain rfl : z12 = (.pointer (some ⟨w.heap.size, 1, none⟩)) := hvp 12 (by omega)
      obtain rfl : z13 = (.int .i64 o.n) := hvp 13 (by omega)
      obtain rfl : z14 = (.slice AX o.b.length cx) := hvp 14 (by omega)
      obtain rfl : z15 = (.string (str o.b)) := hvp 15 (by omega)
      obtain rfl : z16 = (.int .i64 X) := hvp 16 (by omega)
      obtain rfl : z17 = (.bool true) := hvp 17 (by omega)
      obtain rfl : z18 = (.bool true) := hvp 18 (by omega)
      clear hvl hvp
      simp only [putAll, Act.put, List.setIfInBounds_toArray, List.set_cons_succ, List.set_cons_zero, List.take_succ_cons, List.take_zero, List.drop_succ_cons, List.drop_zero]
      have hM := hst
      rw [hfR 7 (by omega), hfR 16 (by omega)] at hM
      have hM : HMid B0 b g r h pv xv d1 d1 wR := hM
      obtain ⟨F2, hH2⟩ := hM.half
      have hop := HOP.out wR F2 hH2
      have HSR := Lib.hid hsR
      clear hst hM hsR hst0 hcc c0W c1W cnW hTb hTo hH2
      go_wp2_with (go_at_call 29; refine hop.mono ?_; rintro e w2 ⟨rfl, d2, st2, F3, hT2, hP2, hs2⟩)
      go_ret
      exact ⟨rfl, d2, st2, F3, hT2, hP2, ((HWS.out.mono fun _ _ _ => trivial).trans (HSR.out.mono fun k _ (hk : k < B0) => by have := HLO.out; exact ⟨by omega, by omega, by omega⟩)).trans hs2⟩
set_option maxRecDepth 100000 in
set_option maxHeartbeats 2000000 in
theorem do_hand_made (H : Twos w B0 b g r h F d st) (HP : PInv k d st) (hk : k ≤ 41) (hB : By w (fun k => k < B0) vb o.b) (ho : o.b.length ≤ 300) (hki : -9223372036854775808 ≤ o.kind ∧ o.kind ≤ 9223372036854775807) (hn : -9223372036854775808 ≤ o.n ∧ o.n ≤ 9223372036854775807) (hkind : placeF o.kind 7 = 6) (hmade : o.made = true) :
    Calls Try.prog 30 #[ptr b, .agg #[.int .i64 o.kind, .int .i64 o.n, .bool o.made, vb, vl, vk]] w (DoneP B0 b g r h k w) := by
  have hpl := fun w => place_any o.kind 7 w hki (by omega)
  rw [hkind] at hpl
  rw [hmade]
  obtain ⟨pv, xv, hH⟩ := HalfW.ofTwos H
  have hlen := HP.len.file o.n
  have hfit := HP.fit (by omega)
  obtain ⟨xs, hxs, hx4⟩ : ∃ xs, xs = recF o.b ∧ xs.length ≤ 400 := ⟨_, rfl, by rw [recF_len]; omega⟩
  have hcd : ∀ wc, RefAt wc h d → Calls Try.prog 50 #[ptr h, .int .i64 o.n, .string (str xs)] wc (RStep h wc (.int .i64 (d.append o.n xs).1) (d.append o.n xs).2) := fun wc hr => rappend_any h d o.n xs wc hr hfit (by omega)
  have hcc : ∀ wc F S v, DiskAt wc g r F d → By wc S v xs → Calls Try.prog 13 #[ptr g, .int .i64 o.n, v] wc (APost g r F wc (d.append o.n xs).1 (d.append o.n xs).2) := fun wc F S v hd hv => dappend_any g r F S d o.n v xs wc hd hfit hv (by omega)
  have hkp := append_kept (f := o.n) (b := xs) (HP.len.mono (m := 2200 + 400 * (k + 1)) (by omega)) HP.ok.armed (by omega)
  have hop : ∀ W F2, HalfW W B0 b g r h F2 (d.append o.n xs).2 pv xv → Calls Try.prog 29 #[ptr b] W (DoneP B0 b g r h k W) := fun W F2 hH => open_done (k := k) W hH ⟨hkp.armed, by have := hkp.steps; have := HP.steps; omega⟩ (by have := hkp.steps; have := HP.steps; omega) (hkp.len.mono (by omega)) hk fun m0 m1 h0 h1 => HP.byHand o.n hx4 hk h0 h1
  obtain ⟨X, hX⟩ : ∃ X, X = (d.append o.n xs).1 := ⟨_, rfl⟩
  obtain ⟨d1, hd1⟩ : ∃ d1, d1 = (d.append o.n xs).2 := ⟨_, rfl⟩
  rw [← hX, ← hd1] at hcc hcd
  rw [← hd1] at hop
  have HCC := Lib.hid hcc
  have HOP := Lib.hid hop
  have HH := Lib.hid hH
  have HN := Lib.hid hH.ne
  have HXS := Lib.hid hxs
  have hbox : Same (fun _ => True) w (w.alloc (.cells #[.int .i64 o.kind, .int .i64 o.n, .bool true, vb, vl, vk] 53)) := (Same.refl _ _).alloc _
  have HRB := Lib.hid (Row.new w 53 [.int .i64 o.kind, .int .i64 o.n, .bool true, vb, vl, vk])
  have HBOX := Lib.hid hbox
  have hlo := hH.lo
  have hb := hH.row.lt
  have hg := hH.disk.2.1
  have hr := hH.disk.2.2.1
  have hh := hH.ref.lt
  have HLO := Lib.hid hlo
  have HB := Lib.hid hB
  obtain ⟨A2, cb, rfl, -, hmb, -⟩ := id hB
  unfold maxLen at hmb
  clear H HP hki hkind hH hbox hlo hB hcc hop hX hd1 hkp hlen hfit hmade hxs
  go_enter Try.func30, Try.ntmps30
  have hput := fun W (hs : Same (fun _ => True) w W) => rfput_any (.slice none 0 0) (.slice A2 o.b.length cb) [] o.b (fun _ => True) _ W (By_nil W) (HB.out.keep (hs.mono fun _ _ _ => trivial)) (by decide) (by omega)
  have HPUT := Lib.hid (hput _ HBOX.out)
  clear hput
  go_wp2_with (first | (go_at_call 25; refine (hpl _).mono ?_; rintro e w' ⟨rfl, rfl⟩) | (go_at_call 36; refine stopAt ?_))
  unfold Hid
  refine HPUT.out.mono ?_
  rintro e W ⟨u, rfl, hu, hs1⟩
  rw [List.nil_append, ← HXS.out] at hu
  obtain ⟨AX, cx, rfl, -, hcx⟩ := hu.formN rfl
  unfold maxLen at hcx
  have hWs := HBOX.out.trans hs1
  have hWb := HRB.out.keep hs1 trivial
  have hXW : By W (fun k => k < B0 ∨ w.heap.size ≤ k) (.slice AX xs.length cx) xs := hu.by_.mono fun k _ hk => .inr (by simp at hk; omega)
  have hHW := HH.out.keepAll hWs
  have HWS := Lib.hid hWs
  clear hWs hpl hs1 hu HPUT
  go_wp2
  have hcvX : ∀ wc, Same (fun k => k ≠ g ∧ k ≠ r ∧ k ≠ h) W wc → (convert 24 9 (.slice AX xs.length cx)).run Try.prog wc = .ok (.string (str xs)) wc := fun wc hs => conv_by (hXW.keep (hs.mono fun k _ hk => by have := HLO.out; omega))
  have hcc : ∀ wc, Same (fun k => k ≠ g ∧ k ≠ r ∧ k ≠ h) W wc → ∀ F, DiskAt wc g r F d → Calls Try.prog 13 #[ptr g, .int .i64 o.n, .slice AX xs.length cx] wc (APost g r F wc X d1) := fun wc hs F hd => HCC.out wc F _ _ hd (hXW.keep (hs.mono fun k _ hk => by have := HLO.out; omega))
  have HCVX := Lib.hid hcvX
  have hst0 := (hHW.hmid).keepAll (Same.refl _ _).drew
  have rowW := hHW.row
  have c0W := rowW.cell 0
  have c1W := rowW.cell 1
  have cnW := hWb.cell 1
  simp at c0W c1W cnW
  have hTb : (fun k => k ≠ g ∧ k ≠ r ∧ k ≠ h) b := ⟨HN.out.1, HN.out.2.1, HN.out.2.2.1⟩
  have hTo : (fun k => k ≠ g ∧ k ≠ r ∧ k ≠ h) w.heap.size := ⟨by omega, by omega, by omega⟩
  clear rowW hWb hXW hcvX
  refine wp_region_st_lit (T := fun k => k ≠ g ∧ k ≠ r ∧ k ≠ h) (L := [.eq (ptr b), .eq (ptr b), .eq (.pointer (some ⟨b, 0, none⟩)), .eq (ptr g), .eq (.pointer (some ⟨w.heap.size, 1, none⟩)), .eq (.int .i64 o.n), .eq (.slice AX xs.length cx), .eq (.int .i64 X), .eq (ptr b), .eq (ptr b), .eq (.pointer (some ⟨b, 1, none⟩)), .eq (ptr h), .eq (.pointer (some ⟨w.heap.size, 1, none⟩)), .eq (.int .i64 o.n), .eq (.slice AX xs.length cx), .eq (.string (str xs)), .eq (.int .i64 X), .eq (.bool true), .eq (.bool true)]) (fun f Wx => HMid B0 b g r h pv xv (cond (f 7) d1 d) (cond (f 16) d1 d) Wx) 19 (by kernel_rfl) (by kernel_rfl) rfl ?_ ?_ ?_
  · exact hst0
  · refine ⟨?_, ?_, ?_, ?_, ?_, ?_, ?_, ?_, ?_, ?_, ?_, ?_, ?_, ?_, ?_, ?_, ?_, ?_, ?_, trivial⟩
    · intro ac wc f hs hst hni hwt hd hz hf hw K hK
      have e0 : ac.eval (.tmp 0) = (ptr b) := hf 0 rfl
      clear hd hz hf hw
      simp only [Region.wanted, if_true, Oper.wp, execOp, resolve, List.map_toArray, List.map_cons, List.map_nil, Option.map_some, Option.map_none, e0]
      go_simp
      exact hK _ _ rfl (Same.refl _ _) hst
    · intro ac wc f hs hst hni hwt hd hz hf hw K hK
      have e0 : ac.eval (.tmp 66) = (ptr b) := hw 0 rfl
      clear hd hz hf hw
      simp only [Region.wanted, if_true, Oper.wp, execOp, resolve, List.map_toArray, List.map_cons, List.map_nil, Option.map_some, Option.map_none, e0]
      go_simp
      exact hK _ _ rfl (Same.refl _ _) hst
    · intro ac wc f hs hst hni hwt hd hz hf hw K hK
      have e0 : ac.eval (.tmp 67) = (ptr b) := hw 1 rfl
      clear hd hz hf hw
      simp only [Region.wanted, if_true, Oper.wp, execOp, resolve, List.map_toArray, List.map_cons, List.map_nil, Option.map_some, Option.map_none, e0]
      go_simp
      exact hK _ _ rfl (Same.refl _ _) hst
    · intro ac wc f hs hst hni hwt hd hz hf hw K hK
      have e0 : ac.eval (.tmp 68) = (.pointer (some ⟨b, 0, none⟩)) := hw 2 rfl
      have m0 : wc.cell? ⟨b, 0, none⟩ = some (ptr g) := hs.cell (p := ⟨b, 0, none⟩) hTb c0W
      clear hd hz hf hw
      simp only [Region.wanted, if_true, Oper.wp, execOp, resolve, List.map_toArray, List.map_cons, List.map_nil, Option.map_some, Option.map_none, e0]
      go_simp
      exact hK _ _ rfl (Same.refl _ _) hst
    · intro ac wc f hs hst hni hwt hd hz hf hw K hK
      have e0 : ac.eval (.tmp 3) = (.pointer (some ⟨w.heap.size, 0, none⟩)) := hf 3 rfl
      clear hd hz hf hw
      simp only [Region.wanted, if_true, Oper.wp, execOp, resolve, List.map_toArray, List.map_cons, List.map_nil, Option.map_some, Option.map_none, e0]
      go_simp
      exact hK _ _ rfl (Same.refl _ _) hst
    · intro ac wc f hs hst hni hwt hd hz hf hw K hK
      have e0 : ac.eval (.tmp 70) = (.pointer (some ⟨w.heap.size, 1, none⟩)) := hw 4 rfl
      have m0 : wc.cell? ⟨w.heap.size, 1, none⟩ = some (.int .i64 o.n) := hs.cell (p := ⟨w.heap.size, 1, none⟩) hTo cnW
      clear hd hz hf hw
      simp only [Region.wanted, if_true, Oper.wp, execOp, resolve, List.map_toArray, List.map_cons, List.map_nil, Option.map_some, Option.map_none, e0]
      go_simp
      exact hK _ _ rfl (Same.refl _ _) hst
    · intro ac wc f hs hst hni hwt hd hz hf hw K hK
      have e0 : ac.eval (.tmp 5) = (.slice AX xs.length cx) := hf 5 rfl
      clear hd hz hf hw
      simp only [Region.wanted, if_true, Oper.wp, execOp, resolve, List.map_toArray, List.map_cons, List.map_nil, Option.map_some, Option.map_none, e0]
      go_simp
      exact hK _ _ rfl (Same.refl _ _) hst
    · intro ac wc f hs hst hni hwt hd hz hf hw K hK
      have e0 : ac.eval (.tmp 69) = (ptr g) := hw 3 rfl
      have e1 : ac.eval (.tmp 71) = (.int .i64 o.n) := hw 5 rfl
      have e2 : ac.eval (.tmp 72) = (.slice AX xs.length cx) := hw 6 rfl
      clear hd hz hf hw
      simp only [Region.wanted, if_true, Oper.wp, execOp, resolve, List.map_toArray, List.map_cons, List.map_nil, Option.map_some, Option.map_none, e0, e1, e2]
      go_simp
      have hM : HMid B0 b g r h pv xv d (cond (f 16) d1 d) wc := by have q := hst; rw [hni] at q; exact q
      refine (hM.code (fun F hd => hcc wc hs F hd)).mono ?_
      rintro e w' ⟨rfl, hM', hs'⟩
      exact hK _ _ rfl (hs'.mono fun k _ hk => ⟨hk.1, hk.2.1⟩) hM'
    · intro ac wc f hs hst hni hwt hd hz hf hw K hK
      have e0 : ac.eval (.tmp 0) = (ptr b) := hf 0 rfl
      clear hd hz hf hw
      simp only [Region.wanted, if_true, Oper.wp, execOp, resolve, List.map_toArray, List.map_cons, List.map_nil, Option.map_some, Option.map_none, e0]
      go_simp
      exact hK _ _ rfl (Same.refl _ _) hst
    · intro ac wc f hs hst hni hwt hd hz hf hw K hK
      have e0 : ac.eval (.tmp 74) = (ptr b) := hw 8 rfl
      clear hd hz hf hw
      simp only [Region.wanted, if_true, Oper.wp, execOp, resolve, List.map_toArray, List.map_cons, List.map_nil, Option.map_some, Option.map_none, e0]
      go_simp
      exact hK _ _ rfl (Same.refl _ _) hst
    · intro ac wc f hs hst hni hwt hd hz hf hw K hK
      have e0 : ac.eval (.tmp 75) = (ptr b) := hw 9 rfl
      clear hd hz hf hw
      simp only [Region.wanted, if_true, Oper.wp, execOp, resolve, List.map_toArray, List.map_cons, List.map_nil, Option.map_some, Option.map_none, e0]
      go_simp
      exact hK _ _ rfl (Same.refl _ _) hst
    · intro ac wc f hs hst hni hwt hd hz hf hw K hK
      have e0 : ac.eval (.tmp 76) = (.pointer (some ⟨b, 1, none⟩)) := hw 10 rfl
      have m0 : wc.cell? ⟨b, 1, none⟩ = some (ptr h) := hs.cell (p := ⟨b, 1, none⟩) hTb c1W
      clear hd hz hf hw
      simp only [Region.wanted, if_true, Oper.wp, execOp, resolve, List.map_toArray, List.map_cons, List.map_nil, Option.map_some, Option.map_none, e0]
      go_simp
      exact hK _ _ rfl (Same.refl _ _) hst
    · intro ac wc f hs hst hni hwt hd hz hf hw K hK
      have e0 : ac.eval (.tmp 3) = (.pointer (some ⟨w.heap.size, 0, none⟩)) := hf 3 rfl
      clear hd hz hf hw
      simp only [Region.wanted, if_true, Oper.wp, execOp, resolve, List.map_toArray, List.map_cons, List.map_nil, Option.map_some, Option.map_none, e0]
      go_simp
      exact hK _ _ rfl (Same.refl _ _) hst
    · intro ac wc f hs hst hni hwt hd hz hf hw K hK
      have e0 : ac.eval (.tmp 78) = (.pointer (some ⟨w.heap.size, 1, none⟩)) := hw 12 rfl
      have m0 : wc.cell? ⟨w.heap.size, 1, none⟩ = some (.int .i64 o.n) := hs.cell (p := ⟨w.heap.size, 1, none⟩) hTo cnW
      clear hd hz hf hw
      simp only [Region.wanted, if_true, Oper.wp, execOp, resolve, List.map_toArray, List.map_cons, List.map_nil, Option.map_some, Option.map_none, e0]
      go_simp
      exact hK _ _ rfl (Same.refl _ _) hst
    · intro ac wc f hs hst hni hwt hd hz hf hw K hK
      have e0 : ac.eval (.tmp 5) = (.slice AX xs.length cx) := hf 5 rfl
      clear hd hz hf hw
      simp only [Region.wanted, if_true, Oper.wp, execOp, resolve, List.map_toArray, List.map_cons, List.map_nil, Option.map_some, Option.map_none, e0]
      go_simp
      exact hK _ _ rfl (Same.refl _ _) hst
    · intro ac wc f hs hst hni hwt hd hz hf hw K hK
      have e0 : ac.eval (.tmp 80) = (.slice AX xs.length cx) := hw 14 rfl
      have hcvw := HCVX.out wc hs
      clear hd hz hf hw
      simp only [Region.wanted, if_true, Oper.wp, execOp, resolve, List.map_toArray, List.map_cons, List.map_nil, Option.map_some, Option.map_none, e0]
      go_simp
      exact hK _ _ rfl (Same.refl _ _) hst
    · intro ac wc f hs hst hni hwt hd hz hf hw K hK
      have e0 : ac.eval (.tmp 77) = (ptr h) := hw 11 rfl
      have e1 : ac.eval (.tmp 79) = (.int .i64 o.n) := hw 13 rfl
      have e2 : ac.eval (.tmp 81) = (.string (str xs)) := hw 15 rfl
      clear hd hz hf hw
      simp only [Region.wanted, if_true, Oper.wp, execOp, resolve, List.map_toArray, List.map_cons, List.map_nil, Option.map_some, Option.map_none, e0, e1, e2]
      go_simp
      have hM : HMid B0 b g r h pv xv (cond (f 7) d1 d) d wc := by have q := hst; rw [hni] at q; exact q
      refine (hM.doc (fun hr => hcd wc hr)).mono ?_
      rintro e w' ⟨rfl, hM', hs'⟩
      exact hK _ _ rfl (hs'.mono fun k _ hk => hk.2.2) hM'
    · intro ac wc f hs hst hni hwt hd hz hf hw K hK
      have e0 : ac.eval (.tmp 73) = (.int .i64 X) := hw 7 rfl
      have e1 : ac.eval (.tmp 82) = (.int .i64 X) := hw 16 rfl
      clear hd hz hf hw
      simp only [Region.wanted, if_true, Oper.wp, execOp, resolve, List.map_toArray, List.map_cons, List.map_nil, Option.map_some, Option.map_none, e0, e1]
      go_simp
      exact hK _ _ rfl (Same.refl _ _) hst
    · intro ac wc f hs hst hni hwt hd hz hf hw K hK
      have e0 : ac.eval (.tmp 83) = (.bool true) := hw 17 rfl
      clear hd hz hf hw
      simp only [Region.wanted, if_true, Oper.wp, execOp, resolve, List.map_toArray, List.map_cons, List.map_nil, Option.map_some, Option.map_none, e0]
      go_simp
      exact hK _ _ rfl (Same.refl _ _) hst
  · intro vs wR f hvl hvp hsR hst hfR
    rcases vs with _ | ⟨z0, _ | ⟨z1, _ | ⟨z2, _ | ⟨z3, _ | ⟨z4, _ | ⟨z5, _ | ⟨z6, _ | ⟨z7, _ | ⟨z8, _ | ⟨z9, _ | ⟨z10, _ | ⟨z11, _ | ⟨z12, _ | ⟨z13, _ | ⟨z14, _ | ⟨z15, _ | ⟨z16, _ | ⟨z17, _ | ⟨z18, _ | ⟨zz, zr⟩⟩⟩⟩⟩⟩⟩⟩⟩⟩⟩⟩⟩⟩⟩⟩⟩⟩⟩⟩
    rotate_right 1
    · simp at hvl
    · simp at hvl
    · simp at hvl
    · simp at hvl
    · simp at hvl
    · simp at hvl
    · simp at hvl
    · simp at hvl
    · simp at hvl
    · simp at hvl
    · simp at hvl
    · simp at hvl
    · simp at hvl
    · simp at hvl
    · simp at hvl
    · simp at hvl
    · simp at hvl
    · simp at hvl
    · simp at hvl
    · simp at hvl
    · obtain rfl : z0 = (ptr b) := hvp 0 (by omega)
      obtain rfl : z1 = (ptr b) := hvp 1 (by omega)
      obtain rfl : z2 = (.pointer (some ⟨b, 0, none⟩)) := hvp 2 (by omega)
      obtain rfl : z3 = (ptr g) := hvp 3 (by omega)
      obtain rfl : z4 = (.pointer (some ⟨w.heap.size, 1, none⟩)) := hvp 4 (by omega)
      obtain rfl : z5 = (.int .i64 o.n) := hvp 5 (by omega)
      obtain rfl : z6 = (.slice AX xs.length cx) := hvp 6 (by omega)
      obtain rfl : z7 = (.int .i64 X) := hvp 7 (by omega)
      obtain rfl : z8 = (ptr b) := hvp 8 (by omega)
      obtain rfl : z9 = (ptr b) := hvp 9 (by omega)
      obtain rfl : z10 = (.pointer (some ⟨b, 1, none⟩)) := hvp 10 (by omega)
      obtain rfl : z11 = (ptr h) := hvp 11 (by omega)
      obtain rfl : z12 = (.pointer (some ⟨w.heap.size, 1, none⟩)) := hvp 12 (by omega)
      obtain rfl : z13 = (.int .i64 o.n) := hvp 13 (by omega)
      obtain rfl : z14 = (.slice AX xs.length cx) := hvp 14 (by omega)
      obtain rfl : z15 = (.string (str xs)) := hvp 15 (by omega)
      obtain rfl : z16 = (.int .i64 X) := hvp 16 (by omega)
      obtain rfl : z17 = (.bool true) := hvp 17 (by omega)
      obtain rfl : z18 = (.bool true) := hvp 18 (by omega)
      clear hvl hvp
      simp only [putAll, Act.put, List.setIfInBounds_toArray, List.set_cons_succ, List.set_cons_zero, List.take_succ_cons, List.take_zero, List.drop_succ_cons, List.drop_zero]
      have hM := hst
      rw [hfR 7 (by omega), hfR 16 (by omega)] at hM
      have hM : HMid B0 b g r h pv xv d1 d1 wR := hM
      obtain ⟨F2, hH2⟩ := hM.half
      have hop := HOP.out wR F2 hH2
      have HSR := Lib.hid hsR
      clear hst hM hsR hst0 hcc c0W c1W cnW hTb hTo hH2
      go_wp2_with (go_at_call 29; refine hop.mono ?_; rintro e w2 ⟨rfl, d2, st2, F3, hT2, hP2, hs2⟩)
      go_ret
      exact ⟨rfl, d2, st2, F3, hT2, hP2, ((HWS.out.mono fun _ _ _ => trivial).trans (HSR.out.mono fun k _ (hk : k < B0) => by have := HLO.out; exact ⟨by omega, by omega, by omega⟩)).trans hs2⟩
end
end Go.Proofs.Ytpjinngngbifoaa
