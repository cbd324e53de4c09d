/-
  Words, plain models, laws and walks that the claims of this layer share (joined by shake.py). No condition.
-/
import Derived.Test.YtpjinngngbifoaaU1
import Derived.Test.YtpjinngngbifoaaU2
import Derived.Test.YtpjinngngbifoaaU3
import Derived.Test.YtpjinngngbifoaaU4
import Derived.Test.YtpjinngngbifoaaU5
import Derived.Test.YtpjinngngbifoaaU6
import Derived.Test.YtpjinngngbifoaaU7
import Derived.Test.YtpjinngngbifoaaU8
import Derived.Test.YtpjinngngbifoaaU9
import Derived.Test.YtpjinngngbifoaaU10
import Derived.Test.YtpjinngngbifoaaU11
import Derived.Test.YtpjinngngbifoaaU12
import Derived.Test.YtpjinngngbifoaaU13
import Derived.Test.YtpjinngngbifoaaU14
import Derived.Test.YtpjinngngbifoaaU15
import Derived.Test.YtpjinngngbifoaaU16
import Derived.Test.YtpjinngngbifoaaU17
import Derived.Test.YtpjinngngbifoaaU18
import Derived.Test.YtpjinngngbifoaaU19
import Derived.Test.YtpjinngngbifoaaU20
import Derived.Test.YtpjinngngbifoaaU21
import Derived.Test.YtpjinngngbifoaaU22
import Derived.Test.YtpjinngngbifoaaU23
import Derived.Test.YtpjinngngbifoaaU24
import Derived.Test.YtpjinngngbifoaaU25
import Derived.Test.YtpjinngngbifoaaU26
import Derived.Test.YtpjinngngbifoaaU27
import Derived.Test.YtpjinngngbifoaaU28
import Derived.Test.YtpjinngngbifoaaU29
import Derived.Test.YtpjinngngbifoaaU30
import Derived.Test.YtpjinngngbifoaaU31
import Derived.Test.YtpjinngngbifoaaU32
import Derived.Test.YtpjinngngbifoaaU33
import Derived.Test.YtpjinngngbifoaaU34
set_option linter.unusedSimpArgs false
set_option linter.unusedVariables false
namespace Go.Proofs.Ytpjinngngbifoaa
open Go.RowKit
set_option maxRecDepth 100000 in
set_option maxHeartbeats 2000000 in
theorem do_sync (B0 b g r h k : Nat) (F : Nat → Prop) (d : DiskM) (l : WalM) (recs : List (List UInt8)) (o : OpW) (vb vl vk : Value) (w : World) (H : Twos w B0 b g r h F d (some (l, recs))) (HP : PInv k d (some (l, recs))) (hk : k ≤ 41)
    (hki : -9223372036854775808 ≤ o.kind ∧ o.kind ≤ 9223372036854775807) (hkind : placeF o.kind 7 = 1) :
    Calls Try.prog 30 #[ptr b, .agg #[.int .i64 o.kind, .int .i64 o.n, .bool o.made, vb, vl, vk]] w (DoneP B0 b g r h k w) := by
  have hpl := fun w => place_any o.kind 7 w hki (by omega)
  rw [hkind] at hpl
  obtain ⟨p, x, A, c, hrow, hmid, hlo, hTb, hTn, hT0⟩ := H.mid
  have hP1 := HP.syn
  obtain ⟨⟨X, d1, l1⟩, hX⟩ : ∃ Z, Z = syncW d l := ⟨_, rfl⟩
  have hcc : ∀ wc F, LogAt wc p g r F d l → Calls Try.prog 19 #[ptr p] wc (WPost p g r F wc X d1 l1) := fun wc F hL => by
    have := wsync_any p g r F d l wc hL (HP.fit (by omega))
    rw [← hX] at this
    exact this
  obtain ⟨recs1, hrecs1⟩ : ∃ recs1, recs1 = recs := ⟨_, rfl⟩
  have hcd : ∀ wc, RefWal wc x h B0 l recs (.slice A recs.length c) → RefAt wc h d → Calls Try.prog 55 #[ptr x] wc (XPost x h B0 (.slice A recs.length c) wc X d1 l1 recs1) := fun wc hx hr => by
    rw [hrecs1]
    have := rwsync_any x h B0 d l recs _ wc hx hr (HP.fit (by omega))
    rw [← hX] at this
    exact this
  rw [← hX] at hP1
  have HLO := Lib.hid hlo
  have HTB := Lib.hid hTb
  have HTN := Lib.hid hTn
  have HT0 := Lib.hid hT0
  have HROW := Lib.hid hrow
  have HMID := Lib.hid hmid
  have HP1 := Lib.hid hP1
  have c2 := hrow.cell 2
  have c3 := hrow.cell 3
  have hb := hrow.lt
  simp at c2 c3
  have hbox : Same (fun _ => True) w (w.alloc (.cells #[.int .i64 o.kind, .int .i64 o.n, .bool o.made, vb, vl, vk] 53)) := (Same.refl _ _).alloc _
  have HBOX := Lib.hid hbox
  obtain ⟨BW, hBW⟩ : ∃ BW, BW = w.heap.size := ⟨_, rfl⟩
  clear hX hkind H HP hrow hmid hlo hTb hTn hT0 hP1 hki hbox
  go_enter Try.func30, Try.ntmps30
  go_wp2_with (go_at_call 25; refine (hpl _).mono ?_; rintro e w' ⟨rfl, rfl⟩)
  obtain ⟨W, hW⟩ : ∃ W, W = w.alloc (.cells #[.int .i64 o.kind, .int .i64 o.n, .bool o.made, vb, vl, vk] 53) := ⟨_, rfl⟩
  rw [← hW]
  have hWs : Same (fun _ => True) w W := hW ▸ HBOX.out
  have hst0 := (HMID.out W hWs).keepAll (Same.refl _ _).drew
  have rowW := HROW.out.keep hWs trivial
  have c2W := rowW.cell 2
  have c3W := rowW.cell 3
  simp at c2W c3W
  have HWS := Lib.hid hWs
  have HRW := Lib.hid rowW
  clear hW hWs rowW hpl c2 c3
  refine wp_region_st_lit (T := Tb g r h p x (.slice A recs.length c)) (L := [.eq (ptr b), .eq (ptr b), .eq (.pointer (some ⟨b, 2, none⟩)), .eq (ptr p), .eq (.int .i64 X), .eq (ptr b), .eq (ptr b), .eq (.pointer (some ⟨b, 3, none⟩)), .eq (ptr x), .eq (.int .i64 X), .eq (.bool true)]) (fun f Wx => Mid w.heap.size W.heap.size B0 b g r h p x (.slice A recs.length c) (cond (f 4) d1 d) (cond (f 9) d1 d) (cond (f 4) l1 l) (cond (f 9) l1 l) (cond (f 9) recs1 recs) (f 9) Wx) 11 (by kernel_rfl) (by kernel_rfl) rfl ?_ ?_ ?_
  · exact hst0
  · refine ⟨?_, ?_, ?_, ?_, ?_, ?_, ?_, ?_, ?_, ?_, ?_, trivial⟩
    · intro ac wc f hs hst hni hwt hd hz hf hw K hK
      have e0 : ac.eval (.tmp 0) = (ptr b) := hf 0 rfl
      clear hd hz hf hw
      simp only [Region.wanted, if_true, Oper.wp, execOp, resolve, List.map_toArray, List.map_cons, List.map_nil, Option.map_some, Option.map_none, e0]
      go_simp
      exact hK _ _ rfl (Same.refl _ _) hst
    · intro ac wc f hs hst hni hwt hd hz hf hw K hK
      have e0 : ac.eval (.tmp 127) = (ptr b) := hw 0 rfl
      clear hd hz hf hw
      simp only [Region.wanted, if_true, Oper.wp, execOp, resolve, List.map_toArray, List.map_cons, List.map_nil, Option.map_some, Option.map_none, e0]
      go_simp
      exact hK _ _ rfl (Same.refl _ _) hst
    · intro ac wc f hs hst hni hwt hd hz hf hw K hK
      have e0 : ac.eval (.tmp 128) = (ptr b) := hw 1 rfl
      clear hd hz hf hw
      simp only [Region.wanted, if_true, Oper.wp, execOp, resolve, List.map_toArray, List.map_cons, List.map_nil, Option.map_some, Option.map_none, e0]
      go_simp
      exact hK _ _ rfl (Same.refl _ _) hst
    · intro ac wc f hs hst hni hwt hd hz hf hw K hK
      have e0 : ac.eval (.tmp 129) = (.pointer (some ⟨b, 2, none⟩)) := hw 2 rfl
      have m0 : wc.cell? ⟨b, 2, none⟩ = some (ptr p) := hs.cell (p := ⟨b, 2, none⟩) HTB.out c2W
      clear hd hz hf hw
      simp only [Region.wanted, if_true, Oper.wp, execOp, resolve, List.map_toArray, List.map_cons, List.map_nil, Option.map_some, Option.map_none, e0]
      go_simp
      exact hK _ _ rfl (Same.refl _ _) hst
    · intro ac wc f hs hst hni hwt hd hz hf hw K hK
      have e0 : ac.eval (.tmp 130) = (ptr p) := hw 3 rfl
      clear hd hz hf hw
      simp only [Region.wanted, if_true, Oper.wp, execOp, resolve, List.map_toArray, List.map_cons, List.map_nil, Option.map_some, Option.map_none, e0]
      go_simp
      have hM : Mid w.heap.size W.heap.size B0 b g r h p x (.slice A recs.length c) d (cond (f 9) d1 d) l (cond (f 9) l1 l) (cond (f 9) recs1 recs) (f 9) wc := by have q := hst; rw [hni] at q; exact q
      refine (hM.code HLO.out.1 (fun F hL => hcc wc F hL)).mono ?_
      rintro e w' ⟨rfl, hM', hs'⟩
      exact hK _ _ rfl hs' hM'
    · intro ac wc f hs hst hni hwt hd hz hf hw K hK
      have e0 : ac.eval (.tmp 0) = (ptr b) := hf 0 rfl
      clear hd hz hf hw
      simp only [Region.wanted, if_true, Oper.wp, execOp, resolve, List.map_toArray, List.map_cons, List.map_nil, Option.map_some, Option.map_none, e0]
      go_simp
      exact hK _ _ rfl (Same.refl _ _) hst
    · intro ac wc f hs hst hni hwt hd hz hf hw K hK
      have e0 : ac.eval (.tmp 132) = (ptr b) := hw 5 rfl
      clear hd hz hf hw
      simp only [Region.wanted, if_true, Oper.wp, execOp, resolve, List.map_toArray, List.map_cons, List.map_nil, Option.map_some, Option.map_none, e0]
      go_simp
      exact hK _ _ rfl (Same.refl _ _) hst
    · intro ac wc f hs hst hni hwt hd hz hf hw K hK
      have e0 : ac.eval (.tmp 133) = (ptr b) := hw 6 rfl
      clear hd hz hf hw
      simp only [Region.wanted, if_true, Oper.wp, execOp, resolve, List.map_toArray, List.map_cons, List.map_nil, Option.map_some, Option.map_none, e0]
      go_simp
      exact hK _ _ rfl (Same.refl _ _) hst
    · intro ac wc f hs hst hni hwt hd hz hf hw K hK
      have e0 : ac.eval (.tmp 134) = (.pointer (some ⟨b, 3, none⟩)) := hw 7 rfl
      have m0 : wc.cell? ⟨b, 3, none⟩ = some (ptr x) := hs.cell (p := ⟨b, 3, none⟩) HTB.out c3W
      clear hd hz hf hw
      simp only [Region.wanted, if_true, Oper.wp, execOp, resolve, List.map_toArray, List.map_cons, List.map_nil, Option.map_some, Option.map_none, e0]
      go_simp
      exact hK _ _ rfl (Same.refl _ _) hst
    · intro ac wc f hs hst hni hwt hd hz hf hw K hK
      have e0 : ac.eval (.tmp 135) = (ptr x) := hw 8 rfl
      clear hd hz hf hw
      simp only [Region.wanted, if_true, Oper.wp, execOp, resolve, List.map_toArray, List.map_cons, List.map_nil, Option.map_some, Option.map_none, e0]
      go_simp
      have hM : Mid w.heap.size W.heap.size B0 b g r h p x (.slice A recs.length c) (cond (f 4) d1 d) d (cond (f 4) l1 l) l recs false wc := by have q := hst; rw [hni] at q; exact q
      refine (hM.doc (fun hx hr => hcd wc hx hr)).mono ?_
      rintro e w' ⟨rfl, hM', hs'⟩
      exact hK _ _ rfl hs' hM'
    · intro ac wc f hs hst hni hwt hd hz hf hw K hK
      have e0 : ac.eval (.tmp 131) = (.int .i64 X) := hw 4 rfl
      have e1 : ac.eval (.tmp 136) = (.int .i64 X) := hw 9 rfl
      clear hd hz hf hw
      simp only [Region.wanted, if_true, Oper.wp, execOp, resolve, List.map_toArray, List.map_cons, List.map_nil, Option.map_some, Option.map_none, e0, e1]
      go_simp
      exact hK _ _ rfl (Same.refl _ _) hst
  · intro vs wR f hvl hvp hsR hst hfR
    rcases vs with _ | ⟨z0, _ | ⟨z1, _ | ⟨z2, _ | ⟨z3, _ | ⟨z4, _ | ⟨z5, _ | ⟨z6, _ | ⟨z7, _ | ⟨z8, _ | ⟨z9, _ | ⟨z10, _ | ⟨zz, zr⟩⟩⟩⟩⟩⟩⟩⟩⟩⟩⟩⟩
    rotate_right 1
    · simp at hvl
    · simp at hvl
    · simp at hvl
    · simp at hvl
    · simp at hvl
    · simp at hvl
    · simp at hvl
    · simp at hvl
    · simp at hvl
    · simp at hvl
    · simp at hvl
    · simp at hvl
    · obtain rfl : z0 = (ptr b) := hvp 0 (by omega)
      obtain rfl : z1 = (ptr b) := hvp 1 (by omega)
      obtain rfl : z2 = (.pointer (some ⟨b, 2, none⟩)) := hvp 2 (by omega)
      obtain rfl : z3 = (ptr p) := hvp 3 (by omega)
      obtain rfl : z4 = (.int .i64 X) := hvp 4 (by omega)
      obtain rfl : z5 = (ptr b) := hvp 5 (by omega)
      obtain rfl : z6 = (ptr b) := hvp 6 (by omega)
      obtain rfl : z7 = (.pointer (some ⟨b, 3, none⟩)) := hvp 7 (by omega)
      obtain rfl : z8 = (ptr x) := hvp 8 (by omega)
      obtain rfl : z9 = (.int .i64 X) := hvp 9 (by omega)
      obtain rfl : z10 = (.bool true) := hvp 10 (by omega)
      clear hvl hvp
      simp only [putAll, Act.put, List.setIfInBounds_toArray, List.set_cons_succ, List.set_cons_zero, List.take_succ_cons, List.take_zero, List.drop_succ_cons, List.drop_zero]
      have hM := hst
      rw [hfR 4 (by omega), hfR 9 (by omega)] at hM
      have hM : Mid w.heap.size W.heap.size B0 b g r h p x (.slice A recs.length c) d1 d1 l1 l1 recs1 true wR := hM
      have HM := Lib.hid hM
      have HSR := Lib.hid hsR
      clear hst hM hsR hst0 hcc hcd c2W c3W
      go_wp2
      go_ret
      obtain ⟨F', hF'⟩ := HM.out.twos (HRW.out.keep HSR.out HTB.out) HLO.out
      exact ⟨rfl, d1, _, F', hF', hrecs1 ▸ HP1.out, (HWS.out.mono fun _ _ _ => trivial).trans (HSR.out.mono fun k _ hk => HT0.out k hk)⟩
set_option maxRecDepth 100000 in
set_option maxHeartbeats 4000000 in
theorem do_append (B0 b g r h k : Nat) (F : Nat → Prop) (d : DiskM) (l : WalM) (recs : List (List UInt8)) (o : OpW) (vb vl vk : Value) (w : World) (H : Twos w B0 b g r h F d (some (l, recs))) (HP : PInv k d (some (l, recs))) (hk : k ≤ 41)
    (hB : By w (fun k => k < B0) vb o.b) (ho : o.b.length ≤ 300)
    (hki : -9223372036854775808 ≤ o.kind ∧ o.kind ≤ 9223372036854775807) (hkind : placeF o.kind 7 = 0) :
    Calls Try.prog 30 #[ptr b, .agg #[.int .i64 o.kind, .int .i64 o.n, .bool o.made, vb, vl, vk]] w (DoneP B0 b g r h k w) := by
  have hpl := fun w => place_any o.kind 7 w hki (by omega)
  rw [hkind] at hpl
  obtain ⟨p, x, A, c, hrow, hmid, hlo, hTb, hTn, hT0⟩ := H.mid
  have hP1 := HP.app ho
  have hL := HP.log l recs rfl
  have hlen := HP.len.file l.f
  obtain ⟨⟨X, d1, l1⟩, hX⟩ : ∃ Z, Z = appendW d l o.b := ⟨_, rfl⟩
  rw [← hX] at hP1
  obtain ⟨recs1, hrecs1⟩ : ∃ recs1, recs1 = if X = 0 then recs ++ [o.b] else recs := ⟨_, rfl⟩
  have hP1 : PInv (k + 1) d1 (some (l1, recs1)) := hrecs1 ▸ hP1
  have hcc : ∀ wc F S v, By wc S v o.b → LogAt wc p g r F d l → Calls Try.prog 18 #[ptr p, v] wc (WPost p g r F wc X d1 l1) := fun wc F S v hv hLg => by
    have := wappend_any p g r F S d l v o.b wc hLg (HP.fit (by omega)) hv (by omega) (by omega) (hL.fit (by omega))
    rw [← hX] at this
    exact this
  have hcd : ∀ wc, B0 ≤ wc.heap.size → RefWal wc x h B0 l recs (.slice A recs.length c) → RefAt wc h d → Calls Try.prog 52 #[ptr x, .string (str o.b)] wc (XPost x h B0 (.slice A recs.length c) wc X d1 l1 recs1) := fun wc hB hx hr => by
    rw [hrecs1]
    have := rwappend_any x h B0 d l recs _ o.b wc hx hr (HP.fit (by omega)) hB (by omega) (by have := hL.rl; omega) (by omega)
    rw [← hX] at this
    exact this
  have HLO := Lib.hid hlo
  have HTB := Lib.hid hTb
  have HTN := Lib.hid hTn
  have HT0 := Lib.hid hT0
  have HROW := Lib.hid hrow
  have HMID := Lib.hid hmid
  have HP1 := Lib.hid hP1
  have c2 := hrow.cell 2
  have c3 := hrow.cell 3
  have hb := hrow.lt
  simp at c2 c3
  have hbox : Same (fun _ => True) w (w.alloc (.cells #[.int .i64 o.kind, .int .i64 o.n, .bool o.made, vb, vl, vk] 53)) := (Same.refl _ _).alloc _
  have HBOX := Lib.hid hbox
  have HRB := Lib.hid (Row.new w 53 [.int .i64 o.kind, .int .i64 o.n, .bool o.made, vb, vl, vk])
  have HB := Lib.hid hB
  have htw := twin_any vb o.b _ _ (hB.keep (hbox.mono fun _ _ _ => trivial)) (by omega)
  obtain ⟨A2, cb, rfl, -, hmb, -⟩ := id hB
  clear hX hkind H HP hrow hmid hlo hTb hTn hT0 hP1 hki hbox hL hlen hB hrecs1
  go_enter Try.func30, Try.ntmps30
  go_wp2_with (first | (go_at_call 25; refine (hpl _).mono ?_; rintro e w' ⟨rfl, rfl⟩) | (go_at_call 51; refine stopAt ?_))
  unfold Hid
  refine htw.mono ?_
  rintro e W ⟨u, tg, rfl, htgb, htW, hs1⟩
  obtain ⟨rfl, -⟩ := id htW
  have hWs := HBOX.out.trans hs1
  have hst0 := (HMID.out W hWs).keepAll (Same.refl _ _).drew
  have rowW := HROW.out.keep hWs trivial
  have c2W := rowW.cell 2
  have c3W := rowW.cell 3
  have cbW := (HRB.out.keep hs1 trivial).cell 3
  simp at c2W c3W cbW htgb
  have hmx : o.b.length + 3 ≤ maxLen := by simp only [maxLen]; omega
  have hTtg := HTN.out tg (by omega)
  have hTbw := HTN.out w.heap.size (Nat.le_refl _)
  have hbyW : By W (fun k => k < B0) (.slice A2 o.b.length cb) o.b := HB.out.keep (hWs.mono fun _ _ _ => trivial)
  have hcv : ∀ wc, Same (Tb g r h p x (.slice A recs.length c)) W wc → (convert 24 9 (.slice A2 o.b.length cb)).run Try.prog wc = .ok (.string (str o.b)) wc := fun wc hs => conv_by (hbyW.keep (hs.mono fun k _ hk => HT0.out k hk))
  have hcc2 : ∀ wc, Same (Tb g r h p x (.slice A recs.length c)) W wc → ∀ F, LogAt wc p g r F d l → Calls Try.prog 18 #[ptr p, .slice (some ⟨tg, 0, none⟩) o.b.length (o.b.length + 3)] wc (WPost p g r F wc X d1 l1) := fun wc hs F hL => hcc wc F _ _ ((htW.keep hs hTtg).by hmx) hL
  have hkp : ∀ wc, Same (Tb g r h p x (.slice A recs.length c)) W wc → Calls Try.prog 53 #[.slice (some ⟨tg, 0, none⟩) o.b.length (o.b.length + 3), .slice A2 o.b.length cb] wc fun e w' => e = .returned (.bool true) ∧ w' = wc := fun wc hs => kept_any _ _ o.b tg _ wc (htW.keep hs hTtg) (hbyW.keep (hs.mono fun k _ hk => HT0.out k hk)) (by omega)
  have hlow : B0 ≤ W.heap.size := by have := HLO.out.1; have := rowW.lt; omega
  have htl : tg < W.heap.size := htW.2.lt
  have HWS := Lib.hid hWs
  have HRW := Lib.hid rowW
  have HTW := Lib.hid htW
  have HCV := Lib.hid hcv
  have HKP := Lib.hid hkp
  clear hWs rowW hpl c2 c3 htw hs1 hcc hbyW htW hcv hkp
  go_wp2
  refine wp_region_st_lit (T := Tb g r h p x (.slice A recs.length c)) (L := [.eq (ptr b), .eq (ptr b), .eq (.pointer (some ⟨b, 2, none⟩)), .eq (ptr p), .eq (.slice (some ⟨tg, 0, none⟩) o.b.length (o.b.length + 3)), .eq (.int .i64 X), .eq (ptr b), .eq (ptr b), .eq (.pointer (some ⟨b, 3, none⟩)), .eq (ptr x), .eq (.pointer (some ⟨w.heap.size, 3, none⟩)), .eq (.slice A2 o.b.length cb), .eq (.string (str o.b)), .eq (.int .i64 X), .eq (.bool true), .eq (.bool true), .eq (.slice (some ⟨tg, 0, none⟩) o.b.length (o.b.length + 3)), .eq (.pointer (some ⟨w.heap.size, 3, none⟩)), .eq (.slice A2 o.b.length cb), .eq (.bool true), .eq (.bool true)]) (fun f Wx => Mid w.heap.size W.heap.size B0 b g r h p x (.slice A recs.length c) (cond (f 5) d1 d) (cond (f 13) d1 d) (cond (f 5) l1 l) (cond (f 13) l1 l) (cond (f 13) recs1 recs) (f 13) Wx) 21 (by kernel_rfl) (by kernel_rfl) rfl ?_ ?_ ?_
  · exact hst0
  · refine ⟨?_, ?_, ?_, ?_, ?_, ?_, ?_, ?_, ?_, ?_, ?_, ?_, ?_, ?_, ?_, ?_, ?_, ?_, ?_, ?_, ?_, trivial⟩
    · intro ac wc f hs hst hni hwt hd hz hf hw K hK
      have e0 : ac.eval (.tmp 0) = (ptr b) := hf 0 rfl
      clear hd hz hf hw
      simp only [Region.wanted, if_true, Oper.wp, execOp, resolve, List.map_toArray, List.map_cons, List.map_nil, Option.map_some, Option.map_none, e0]
      go_simp
      exact hK _ _ rfl (Same.refl _ _) hst
    · intro ac wc f hs hst hni hwt hd hz hf hw K hK
      have e0 : ac.eval (.tmp 101) = (ptr b) := hw 0 rfl
      clear hd hz hf hw
      simp only [Region.wanted, if_true, Oper.wp, execOp, resolve, List.map_toArray, List.map_cons, List.map_nil, Option.map_some, Option.map_none, e0]
      go_simp
      exact hK _ _ rfl (Same.refl _ _) hst
    · intro ac wc f hs hst hni hwt hd hz hf hw K hK
      have e0 : ac.eval (.tmp 102) = (ptr b) := hw 1 rfl
      clear hd hz hf hw
      simp only [Region.wanted, if_true, Oper.wp, execOp, resolve, List.map_toArray, List.map_cons, List.map_nil, Option.map_some, Option.map_none, e0]
      go_simp
      exact hK _ _ rfl (Same.refl _ _) hst
    · intro ac wc f hs hst hni hwt hd hz hf hw K hK
      have e0 : ac.eval (.tmp 103) = (.pointer (some ⟨b, 2, none⟩)) := hw 2 rfl
      have m0 : wc.cell? ⟨b, 2, none⟩ = some (ptr p) := hs.cell (p := ⟨b, 2, none⟩) HTB.out c2W
      clear hd hz hf hw
      simp only [Region.wanted, if_true, Oper.wp, execOp, resolve, List.map_toArray, List.map_cons, List.map_nil, Option.map_some, Option.map_none, e0]
      go_simp
      exact hK _ _ rfl (Same.refl _ _) hst
    · intro ac wc f hs hst hni hwt hd hz hf hw K hK
      have e0 : ac.eval (.tmp 6) = (.slice (some ⟨tg, 0, none⟩) o.b.length (o.b.length + 3)) := hf 6 rfl
      clear hd hz hf hw
      simp only [Region.wanted, if_true, Oper.wp, execOp, resolve, List.map_toArray, List.map_cons, List.map_nil, Option.map_some, Option.map_none, e0]
      go_simp
      exact hK _ _ rfl (Same.refl _ _) hst
    · intro ac wc f hs hst hni hwt hd hz hf hw K hK
      have e0 : ac.eval (.tmp 104) = (ptr p) := hw 3 rfl
      have e1 : ac.eval (.tmp 105) = (.slice (some ⟨tg, 0, none⟩) o.b.length (o.b.length + 3)) := hw 4 rfl
      clear hd hz hf hw
      simp only [Region.wanted, if_true, Oper.wp, execOp, resolve, List.map_toArray, List.map_cons, List.map_nil, Option.map_some, Option.map_none, e0, e1]
      go_simp
      have hM : Mid w.heap.size W.heap.size B0 b g r h p x (.slice A recs.length c) d (cond (f 13) d1 d) l (cond (f 13) l1 l) (cond (f 13) recs1 recs) (f 13) wc := by have q := hst; rw [hni] at q; exact q
      refine (hM.code HLO.out.1 (fun F hL => hcc2 wc hs F hL)).mono ?_
      rintro e w' ⟨rfl, hM', hs'⟩
      exact hK _ _ rfl hs' hM'
    · intro ac wc f hs hst hni hwt hd hz hf hw K hK
      have e0 : ac.eval (.tmp 0) = (ptr b) := hf 0 rfl
      clear hd hz hf hw
      simp only [Region.wanted, if_true, Oper.wp, execOp, resolve, List.map_toArray, List.map_cons, List.map_nil, Option.map_some, Option.map_none, e0]
      go_simp
      exact hK _ _ rfl (Same.refl _ _) hst
    · intro ac wc f hs hst hni hwt hd hz hf hw K hK
      have e0 : ac.eval (.tmp 107) = (ptr b) := hw 6 rfl
      clear hd hz hf hw
      simp only [Region.wanted, if_true, Oper.wp, execOp, resolve, List.map_toArray, List.map_cons, List.map_nil, Option.map_some, Option.map_none, e0]
      go_simp
      exact hK _ _ rfl (Same.refl _ _) hst
    · intro ac wc f hs hst hni hwt hd hz hf hw K hK
      have e0 : ac.eval (.tmp 108) = (ptr b) := hw 7 rfl
      clear hd hz hf hw
      simp only [Region.wanted, if_true, Oper.wp, execOp, resolve, List.map_toArray, List.map_cons, List.map_nil, Option.map_some, Option.map_none, e0]
      go_simp
      exact hK _ _ rfl (Same.refl _ _) hst
    · intro ac wc f hs hst hni hwt hd hz hf hw K hK
      have e0 : ac.eval (.tmp 109) = (.pointer (some ⟨b, 3, none⟩)) := hw 8 rfl
      have m0 : wc.cell? ⟨b, 3, none⟩ = some (ptr x) := hs.cell (p := ⟨b, 3, none⟩) HTB.out c3W
      clear hd hz hf hw
      simp only [Region.wanted, if_true, Oper.wp, execOp, resolve, List.map_toArray, List.map_cons, List.map_nil, Option.map_some, Option.map_none, e0]
      go_simp
      exact hK _ _ rfl (Same.refl _ _) hst
    · intro ac wc f hs hst hni hwt hd hz hf hw K hK
      have e0 : ac.eval (.tmp 3) = (.pointer (some ⟨w.heap.size, 0, none⟩)) := hf 3 rfl
      clear hd hz hf hw
      simp only [Region.wanted, if_true, Oper.wp, execOp, resolve, List.map_toArray, List.map_cons, List.map_nil, Option.map_some, Option.map_none, e0]
      go_simp
      exact hK _ _ rfl (Same.refl _ _) hst
    · intro ac wc f hs hst hni hwt hd hz hf hw K hK
      have e0 : ac.eval (.tmp 111) = (.pointer (some ⟨w.heap.size, 3, none⟩)) := hw 10 rfl
      have m0 : wc.cell? ⟨w.heap.size, 3, none⟩ = some ((.slice A2 o.b.length cb)) := hs.cell (p := ⟨w.heap.size, 3, none⟩) hTbw cbW
      clear hd hz hf hw
      simp only [Region.wanted, if_true, Oper.wp, execOp, resolve, List.map_toArray, List.map_cons, List.map_nil, Option.map_some, Option.map_none, e0]
      go_simp
      exact hK _ _ rfl (Same.refl _ _) hst
    · intro ac wc f hs hst hni hwt hd hz hf hw K hK
      have e0 : ac.eval (.tmp 112) = (.slice A2 o.b.length cb) := hw 11 rfl
      have hcvw := HCV.out wc hs
      clear hd hz hf hw
      simp only [Region.wanted, if_true, Oper.wp, execOp, resolve, List.map_toArray, List.map_cons, List.map_nil, Option.map_some, Option.map_none, e0]
      go_simp
      exact hK _ _ rfl (Same.refl _ _) hst
    · intro ac wc f hs hst hni hwt hd hz hf hw K hK
      have e0 : ac.eval (.tmp 110) = (ptr x) := hw 9 rfl
      have e1 : ac.eval (.tmp 113) = (.string (str o.b)) := hw 12 rfl
      clear hd hz hf hw
      simp only [Region.wanted, if_true, Oper.wp, execOp, resolve, List.map_toArray, List.map_cons, List.map_nil, Option.map_some, Option.map_none, e0, e1]
      go_simp
      have hM : Mid w.heap.size W.heap.size B0 b g r h p x (.slice A recs.length c) (cond (f 5) d1 d) d (cond (f 5) l1 l) l recs false wc := by have q := hst; rw [hni] at q; exact q
      refine (hM.doc (fun hx hr => hcd wc (Nat.le_trans hlow hs.size) hx hr)).mono ?_
      rintro e w' ⟨rfl, hM', hs'⟩
      exact hK _ _ rfl hs' hM'
    · intro ac wc f hs hst hni hwt hd hz hf hw K hK
      have e0 : ac.eval (.tmp 106) = (.int .i64 X) := hw 5 rfl
      have e1 : ac.eval (.tmp 114) = (.int .i64 X) := hw 13 rfl
      clear hd hz hf hw
      simp only [Region.wanted, if_true, Oper.wp, execOp, resolve, List.map_toArray, List.map_cons, List.map_nil, Option.map_some, Option.map_none, e0, e1]
      go_simp
      exact hK _ _ rfl (Same.refl _ _) hst
    · intro ac wc f hs hst hni hwt hd hz hf hw K hK
      have e0 : ac.eval (.tmp 115) = (.bool true) := hw 14 rfl
      clear hd hz hf hw
      simp only [Region.wanted, if_true, Oper.wp, execOp, resolve, List.map_toArray, List.map_cons, List.map_nil, Option.map_some, Option.map_none, e0]
      go_simp
      exact hK _ _ rfl (Same.refl _ _) hst
    · intro ac wc f hs hst hni hwt hd hz hf hw K hK
      have eg : ac.eval (.tmp 116) = .bool true := hw 15 rfl
      refine run_wanted (j := 15) (d := 116) (b := true) rfl rfl hz (of_decide_eq_true rfl) eg ?_
      clear eg
      have e0 : ac.eval (.tmp 6) = (.slice (some ⟨tg, 0, none⟩) o.b.length (o.b.length + 3)) := hf 6 rfl
      clear hd hz hf hw
      simp only [Oper.wp, execOp, resolve, List.map_toArray, List.map_cons, List.map_nil, Option.map_some, Option.map_none, e0]
      go_simp
      exact hK _ _ rfl (Same.refl _ _) hst
    · intro ac wc f hs hst hni hwt hd hz hf hw K hK
      have eg : ac.eval (.tmp 116) = .bool true := hw 15 rfl
      refine run_wanted (j := 15) (d := 116) (b := true) rfl rfl hz (of_decide_eq_true rfl) eg ?_
      clear eg
      have e0 : ac.eval (.tmp 3) = (.pointer (some ⟨w.heap.size, 0, none⟩)) := hf 3 rfl
      clear hd hz hf hw
      simp only [Oper.wp, execOp, resolve, List.map_toArray, List.map_cons, List.map_nil, Option.map_some, Option.map_none, e0]
      go_simp
      exact hK _ _ rfl (Same.refl _ _) hst
    · intro ac wc f hs hst hni hwt hd hz hf hw K hK
      have eg : ac.eval (.tmp 116) = .bool true := hw 15 rfl
      refine run_wanted (j := 15) (d := 116) (b := true) rfl rfl hz (of_decide_eq_true rfl) eg ?_
      clear eg
      have e0 : ac.eval (.tmp 118) = (.pointer (some ⟨w.heap.size, 3, none⟩)) := hw 17 rfl
      have m0 : wc.cell? ⟨w.heap.size, 3, none⟩ = some ((.slice A2 o.b.length cb)) := hs.cell (p := ⟨w.heap.size, 3, none⟩) hTbw cbW
      clear hd hz hf hw
      simp only [Oper.wp, execOp, resolve, List.map_toArray, List.map_cons, List.map_nil, Option.map_some, Option.map_none, e0]
      go_simp
      exact hK _ _ rfl (Same.refl _ _) hst
    · intro ac wc f hs hst hni hwt hd hz hf hw K hK
      have eg : ac.eval (.tmp 116) = .bool true := hw 15 rfl
      refine run_wanted (j := 15) (d := 116) (b := true) rfl rfl hz (of_decide_eq_true rfl) eg ?_
      clear eg
      have e0 : ac.eval (.tmp 117) = (.slice (some ⟨tg, 0, none⟩) o.b.length (o.b.length + 3)) := hw 16 rfl
      have e1 : ac.eval (.tmp 119) = (.slice A2 o.b.length cb) := hw 18 rfl
      clear hd hz hf hw
      simp only [Oper.wp, execOp, resolve, List.map_toArray, List.map_cons, List.map_nil, Option.map_some, Option.map_none, e0, e1]
      go_simp
      refine (HKP.out wc hs).mono ?_
      rintro e w' ⟨rfl, rfl⟩
      exact hK _ _ rfl (Same.refl _ _) hst
    · intro ac wc f hs hst hni hwt hd hz hf hw K hK
      have e0 : ac.eval (.tmp 116) = (.bool true) := hw 15 rfl
      have e1 : ac.eval (.tmp 120) = (.bool true) := hw 19 rfl
      clear hd hz hf hw
      simp only [Region.wanted, if_true, Oper.wp, execOp, resolve, List.map_toArray, List.map_cons, List.map_nil, Option.map_some, Option.map_none, e0, e1]
      go_simp
      exact hK _ _ rfl (Same.refl _ _) hst
  · intro vs wR f hvl hvp hsR hst hfR
    rcases vs with _ | ⟨z0, _ | ⟨z1, _ | ⟨z2, _ | ⟨z3, _ | ⟨z4, _ | ⟨z5, _ | ⟨z6, _ | ⟨z7, _ | ⟨z8, _ | ⟨z9, _ | ⟨z10, _ | ⟨z11, _ | ⟨z12, _ | ⟨z13, _ | ⟨z14, _ | ⟨z15, _ | ⟨z16, _ | ⟨z17, _ | ⟨z18, _ | ⟨z19, _ | ⟨z20, _ | ⟨zz, zr⟩⟩⟩⟩⟩⟩⟩⟩⟩⟩⟩⟩⟩⟩⟩⟩⟩⟩⟩⟩⟩⟩
    rotate_right 1
    · simp at hvl
    · simp at hvl
    · simp at hvl
    · simp at hvl
    · simp at hvl
    · simp at hvl
    · simp at hvl
    · simp at hvl
    · simp at hvl
    · simp at hvl
    · simp at hvl
    · simp at hvl
    · simp at hvl
    · simp at hvl
    · simp at hvl
    · simp at hvl
    · simp at hvl
    · simp at hvl
    · simp at hvl
    · simp at hvl
    · simp at hvl
    · simp at hvl
    · obtain rfl : z0 = (ptr b) := hvp 0 (by omega)
      obtain rfl : z1 = (ptr b) := hvp 1 (by omega)
      obtain rfl : z2 = (.pointer (some ⟨b, 2, none⟩)) := hvp 2 (by omega)
      obtain rfl : z3 = (ptr p) := hvp 3 (by omega)
      obtain rfl : z4 = (.slice (some ⟨tg, 0, none⟩) o.b.length (o.b.length + 3)) := hvp 4 (by omega)
      obtain rfl : z5 = (.int .i64 X) := hvp 5 (by omega)
      obtain rfl : z6 = (ptr b) := hvp 6 (by omega)
      obtain rfl : z7 = (ptr b) := hvp 7 (by omega)
      obtain rfl : z8 = (.pointer (some ⟨b, 3, none⟩)) := hvp 8 (by omega)
      obtain rfl : z9 = (ptr x) := hvp 9 (by omega)
      obtain rfl : z10 = (.pointer (some ⟨w.heap.size, 3, none⟩)) := hvp 10 (by omega)
      obtain rfl : z11 = (.slice A2 o.b.length cb) := hvp 11 (by omega)
      obtain rfl : z12 = (.string (str o.b)) := hvp 12 (by omega)
      obtain rfl : z13 = (.int .i64 X) := hvp 13 (by omega)
      obtain rfl : z14 = (.bool true) := hvp 14 (by omega)
      obtain rfl : z15 = (.bool true) := hvp 15 (by omega)
      obtain rfl : z16 = (.slice (some ⟨tg, 0, none⟩) o.b.length (o.b.length + 3)) := hvp 16 (by omega)
      obtain rfl : z17 = (.pointer (some ⟨w.heap.size, 3, none⟩)) := hvp 17 (by omega)
      obtain rfl : z18 = (.slice A2 o.b.length cb) := hvp 18 (by omega)
      obtain rfl : z19 = (.bool true) := hvp 19 (by omega)
      obtain rfl : z20 = (.bool true) := hvp 20 (by omega)
      clear hvl hvp
      simp only [putAll, Act.put, List.setIfInBounds_toArray, List.set_cons_succ, List.set_cons_zero, List.take_succ_cons, List.take_zero, List.drop_succ_cons, List.drop_zero]
      have hM := hst
      rw [hfR 5 (by omega), hfR 13 (by omega)] at hM
      have hM : Mid w.heap.size W.heap.size B0 b g r h p x (.slice A recs.length c) d1 d1 l1 l1 recs1 true wR := hM
      have hsp := spoil_any _ _ w.heap.size _ wR ((HTW.out.keep hsR hTtg).2.owns (n := o.b.length) (cap := o.b.length + 3) (by omega) (by simp) (by omega) hmx)
      have HM := Lib.hid hM
      have HSR := Lib.hid hsR
      clear hst hM hsR hst0 hcc2 hcd c2W c3W cbW hTtg hTbw
      go_wp2_with (go_at_call 54; refine hsp.mono ?_; rintro e3 w3 ⟨rfl, hs3⟩)
      go_ret
      have hM3 := HM.out.keep (hs3.mono fun k _ hk e => by
        have e : some k = some tg := e
        injection e with e
        omega)
      have hS3 : Same (fun k => k ≠ tg) wR w3 := hs3.mono fun k _ hk e => hk (by
        have e : some k = some tg := e
        injection e)
      obtain ⟨F', hF'⟩ := hM3.twos ((HRW.out.keep HSR.out HTB.out).keep hS3 (by have := HM.out.low.1; omega)) HLO.out
      exact ⟨rfl, d1, _, F', hF', HP1.out, ((HWS.out.mono fun _ _ _ => trivial).trans (HSR.out.mono fun k _ hk => HT0.out k hk)).trans (hS3.mono fun k _ hk => by have := HLO.out.1; have := HM.out.low.1; omega)⟩
end Go.Proofs.Ytpjinngngbifoaa
