/-
  Words, plain models, laws and walks that the claims of this layer share (joined by shake.py). No condition.
-/
import Derived.Test.YtpjinngngbifoaaU1
import Derived.Test.YtpjinngngbifoaaU2
import Derived.Test.YtpjinngngbifoaaU3
import Derived.Test.YtpjinngngbifoaaU4
import Derived.Test.YtpjinngngbifoaaU5
import Derived.Test.YtpjinngngbifoaaU6
import Derived.Test.YtpjinngngbifoaaU7
import Derived.Test.YtpjinngngbifoaaU8
import Derived.Test.YtpjinngngbifoaaU9
import Derived.Test.YtpjinngngbifoaaU10
import Derived.Test.YtpjinngngbifoaaU11
import Derived.Test.YtpjinngngbifoaaU12
import Derived.Test.YtpjinngngbifoaaU13
set_option linter.unusedSimpArgs false
set_option linter.unusedVariables false
namespace Go.Proofs.Ytpjinngngbifoaa
open Go.RowKit
/-- A log at p over a disk at g, r. -/
structure LogAt (w : World) (p g r : Nat) (F : Nat → Prop) (d : DiskM) (l : WalM) : Prop where
  disk : DiskAt w g r F d
  wal : WalAt w p g l
  pF : ¬ F p
  pg : p ≠ g
  pr : p ≠ r
theorem LogAt.keep {w w' : World} {p g r : Nat} {F S : Nat → Prop} {d : DiskM} {l : WalM} (h : LogAt w p g r F d l) (hs : Same S w w') (hg : S g) (hr : S r) (hp : S p) (hF : ∀ k, F k → S k) : LogAt w' p g r F d l :=
  ⟨h.disk.keep hs hg hr hF, h.wal.keep hs hp, h.pF, h.pg, h.pr⟩
theorem LogAt.keepAll {w w' : World} {p g r : Nat} {F : Nat → Prop} {d : DiskM} {l : WalM} (h : LogAt w p g r F d l) (hs : Same (fun _ => True) w w') : LogAt w' p g r F d l := h.keep hs trivial trivial trivial fun _ _ => trivial
def Lk (p g r k : Nat) : Prop := k ≠ g ∧ k ≠ r ∧ k ≠ p
/-- What a call on a log leaves. -/
def WPost (p g r : Nat) (F : Nat → Prop) (w : World) (x : Int) (d' : DiskM) (l' : WalM) (e : Ending) (w' : World) : Prop :=
  e = .returned (.int .i64 x) ∧ (∃ F', (∀ k, F' k → F k ∨ w.heap.size ≤ k) ∧ LogAt w' p g r F' d' l') ∧ Same (Lk p g r) w w'
/-- One step of the disk, and what fails notes of it. -/
theorem LogAt.after {w w1 w2 : World} {p g r : Nat} {F F' : Nat → Prop} {d d' : DiskM} {l l' : WalM} (h : LogAt w p g r F d l) (hF : ∀ k, F' k → F k ∨ w.heap.size ≤ k) (hd : DiskAt w1 g r F' d') (hs : Same (fun k => k ≠ g ∧ k ≠ r) w w1)
    (hw : WalAt w2 p g l') (hs2 : Same (fun k => k ≠ p) w1 w2) : LogAt w2 p g r F' d' l' ∧ Same (Lk p g r) w w2 := by
  have hp : p < w.heap.size := Row.lt h.wal
  have hpF : ¬ F' p := fun e => by
    rcases hF p e with h1 | h1
    · exact h.pF h1
    · omega
  exact ⟨⟨hd.keep hs2 h.pg.symm h.pr.symm (fun k hk e => hpF (e ▸ hk)), hw, hpF, h.pg, h.pr⟩, (hs.mono fun k _ hk => ⟨hk.1, hk.2.1⟩).trans (hs2.mono fun k _ hk => hk.2.2)⟩
structure WalM.Fit (l : WalM) : Prop where
  count : l.count ≤ 1000000
  bytes : l.bytes ≤ 10000000
  gen : l.gen ≤ 4611686018427387904
def appendW (d : DiskM) (l : WalM) (r : List UInt8) : Int × DiskM × WalM :=
  if l.over d = true then (6, d, l) else
    ((d.append l.f (recF (82 :: r))).1, (d.append l.f (recF (82 :: r))).2, if (d.append l.f (recF (82 :: r))).1 = 0 then { l with count := l.count + 1, bytes := l.bytes + (9 + r.length) } else l.fails (d.append l.f (recF (82 :: r))).1)
def syncW (d : DiskM) (l : WalM) : Int × DiskM × WalM := if l.over d = true then (6, d, l) else ((d.sync l.f).1, (d.sync l.f).2, l.fails (d.sync l.f).1)
theorem WalM.fails0 (l : WalM) : l.fails 0 = l := by simp [WalM.fails]
set_option maxRecDepth 100000 in
set_option maxHeartbeats 1000000 in
theorem wsync_any (p g r : Nat) (F : Nat → Prop) (d : DiskM) (l : WalM) (w : World) (h : LogAt w p g r F d l) (hd : d.Fit) :
    Calls Try.prog 19 #[ptr p] w (WPost p g r F w (syncW d l).1 (syncW d l).2.1 (syncW d l).2.2) := by
  have hn := fun w (h : WalAt w p g l) => wnone_any p g l w h
  have hov := wover_any p g r F d l w h.wal h.disk
  have h0 := h.wal
  unfold syncW
  have H := Lib.hid h
  clear h
  by_cases ho : l.over d = true
  · rw [if_pos ho]
    rw [ho] at hov
    have HO := Lib.hid ho
    clear ho
    go_enter Try.func19, Try.ntmps19
    go_wp2_with (first | (go_at_call 41; refine (hn _ h0).mono ?_; rintro e w1 ⟨rfl, rfl⟩) | (go_at_call 42; refine hov.mono ?_; rintro e w1 ⟨rfl, hs1⟩))
    go_ret
    exact ⟨rfl, ⟨F, fun _ h => Or.inl h, H.out.keepAll hs1⟩, hs1.mono fun _ _ _ => trivial⟩
  · rw [if_neg ho]
    have ho : l.over d = false := by simpa using ho
    rw [ho] at hov
    have HO := Lib.hid ho
    clear ho
    go_enter Try.func19, Try.ntmps19
    go_wp2_with (first | (go_at_call 41; refine (hn _ h0).mono ?_; rintro e w1 ⟨rfl, rfl⟩) | (go_at_call 42; refine hov.mono ?_; rintro e w1 ⟨rfl, hs1⟩))
    have H1 := Lib.hid (H.out.keepAll hs1)
    have c0 := H1.out.wal.cell 0
    have c3 := H1.out.wal.cell 3
    have hlt := Row.lt H1.out.wal
    simp at c0 c3
    clear hn h0 hov
    refine wp_region_tail_d (L := [.eq (ptr p), .eq (ptr p), .eq (ptr p), .eq (.pointer (some ⟨p, 0, none⟩)), .eq (ptr g), .eq (ptr p), .eq (ptr p), .eq (.pointer (some ⟨p, 3, none⟩)), .eq (.int .i64 l.f)]) 9 0 (by omega) (by kernel_rfl) (by kernel_rfl) rfl rfl rfl rfl rfl rfl ?_ ?_ ?_
    · refine ⟨?_, ?_, ?_, ?_, ?_, ?_, ?_, ?_, ?_, trivial⟩
      · intro ac wc hs hd hz hf hw K hK
        have e0 : ac.eval (.tmp 0) = (ptr p) := hf 0 rfl
        clear hd hz hf hw
        simp only [Region.wanted, if_true, Oper.wp, execOp, resolve, List.map_toArray, List.map_cons, List.map_nil, Option.map_some, Option.map_none, e0]
        go_simp
        exact hK _ _ rfl (Same.refl _ _)
      · intro ac wc hs hd hz hf hw K hK
        have e0 : ac.eval (.tmp 0) = (ptr p) := hf 0 rfl
        clear hd hz hf hw
        simp only [Region.wanted, if_true, Oper.wp, execOp, resolve, List.map_toArray, List.map_cons, List.map_nil, Option.map_some, Option.map_none, e0]
        go_simp
        exact hK _ _ rfl (Same.refl _ _)
      · intro ac wc hs hd hz hf hw K hK
        have e0 : ac.eval (.tmp 10) = (ptr p) := hw 1 rfl
        clear hd hz hf hw
        simp only [Region.wanted, if_true, Oper.wp, execOp, resolve, List.map_toArray, List.map_cons, List.map_nil, Option.map_some, Option.map_none, e0]
        go_simp
        exact hK _ _ rfl (Same.refl _ _)
      · intro ac wc hs hd hz hf hw K hK
        have e0 : ac.eval (.tmp 11) = (ptr p) := hw 2 rfl
        clear hd hz hf hw
        simp only [Region.wanted, if_true, Oper.wp, execOp, resolve, List.map_toArray, List.map_cons, List.map_nil, Option.map_some, Option.map_none, e0]
        go_simp
        exact hK _ _ rfl (Same.refl _ _)
      · intro ac wc hs hd hz hf hw K hK
        have e0 : ac.eval (.tmp 12) = (.pointer (some ⟨p, 0, none⟩)) := hw 3 rfl
        have m0 : wc.cell? ⟨p, 0, none⟩ = some (ptr g) := hs.cell (p := ⟨p, 0, none⟩) trivial c0
        clear hd hz hf hw
        simp only [Region.wanted, if_true, Oper.wp, execOp, resolve, List.map_toArray, List.map_cons, List.map_nil, Option.map_some, Option.map_none, e0]
        go_simp
        exact hK _ _ rfl (Same.refl _ _)
      · intro ac wc hs hd hz hf hw K hK
        have e0 : ac.eval (.tmp 0) = (ptr p) := hf 0 rfl
        clear hd hz hf hw
        simp only [Region.wanted, if_true, Oper.wp, execOp, resolve, List.map_toArray, List.map_cons, List.map_nil, Option.map_some, Option.map_none, e0]
        go_simp
        exact hK _ _ rfl (Same.refl _ _)
      · intro ac wc hs hd hz hf hw K hK
        have e0 : ac.eval (.tmp 14) = (ptr p) := hw 5 rfl
        clear hd hz hf hw
        simp only [Region.wanted, if_true, Oper.wp, execOp, resolve, List.map_toArray, List.map_cons, List.map_nil, Option.map_some, Option.map_none, e0]
        go_simp
        exact hK _ _ rfl (Same.refl _ _)
      · intro ac wc hs hd hz hf hw K hK
        have e0 : ac.eval (.tmp 15) = (ptr p) := hw 6 rfl
        clear hd hz hf hw
        simp only [Region.wanted, if_true, Oper.wp, execOp, resolve, List.map_toArray, List.map_cons, List.map_nil, Option.map_some, Option.map_none, e0]
        go_simp
        exact hK _ _ rfl (Same.refl _ _)
      · intro ac wc hs hd hz hf hw K hK
        have e0 : ac.eval (.tmp 16) = (.pointer (some ⟨p, 3, none⟩)) := hw 7 rfl
        have m0 : wc.cell? ⟨p, 3, none⟩ = some (.int .i64 l.f) := hs.cell (p := ⟨p, 3, none⟩) trivial c3
        clear hd hz hf hw
        simp only [Region.wanted, if_true, Oper.wp, execOp, resolve, List.map_toArray, List.map_cons, List.map_nil, Option.map_some, Option.map_none, e0]
        go_simp
        exact hK _ _ rfl (Same.refl _ _)
    · intro vs wR hvl hvp hsR
      rcases vs with _ | ⟨z0, _ | ⟨z1, _ | ⟨z2, _ | ⟨z3, _ | ⟨z4, _ | ⟨z5, _ | ⟨z6, _ | ⟨z7, _ | ⟨z8, _ | ⟨zz, zr⟩⟩⟩⟩⟩⟩⟩⟩⟩⟩
      rotate_right 1
      · simp at hvl
      · simp at hvl
      · simp at hvl
      · simp at hvl
      · simp at hvl
      · simp at hvl
      · simp at hvl
      · simp at hvl
      · simp at hvl
      · simp at hvl
      · obtain rfl : z0 = (ptr p) := hvp 0 (by omega)
        obtain rfl : z1 = (ptr p) := hvp 1 (by omega)
        obtain rfl : z2 = (ptr p) := hvp 2 (by omega)
        obtain rfl : z3 = (.pointer (some ⟨p, 0, none⟩)) := hvp 3 (by omega)
        obtain rfl : z4 = (ptr g) := hvp 4 (by omega)
        obtain rfl : z5 = (ptr p) := hvp 5 (by omega)
        obtain rfl : z6 = (ptr p) := hvp 6 (by omega)
        obtain rfl : z7 = (.pointer (some ⟨p, 3, none⟩)) := hvp 7 (by omega)
        obtain rfl : z8 = (.int .i64 l.f) := hvp 8 (by omega)
        clear hvl hvp
        simp only [putAll, Act.put, List.setIfInBounds_toArray, List.set_cons_succ, List.set_cons_zero, List.take_succ_cons, List.take_zero, List.drop_succ_cons, List.drop_zero, List.eraseIdx_cons_succ, List.eraseIdx_cons_zero]
        go_wp2_with (go_at_call 32; refine stopAt ?_)
        unfold Hid
        refine (dsync_any g r F d l.f _ (H1.out.disk.keepAll hsR) hd).mono ?_
        rintro e wa ⟨rfl, ⟨F', hF', hd'⟩, hsA⟩
        go_wp2_with (go_at_call 44; refine stopAt ?_)
        unfold Hid
        have hLR := H1.out.keepAll hsR
        refine (wfails_any p g l _ wa (hLR.wal.keep hsA ⟨hLR.pg, hLR.pr⟩)).mono ?_
        rintro e wb ⟨rfl, hw', hsB⟩
        obtain ⟨hL, hS⟩ := LogAt.after hLR hF' hd' hsA hw' hsB
        have HL := Lib.hid hL
        have HSB := Lib.hid ((hsR.mono (S' := Lk p g r) fun _ _ _ => trivial).trans hS)
        go_wp2
        go_ret
        have hz1 := hs1.size
        have hzR := hsR.size
        exact ⟨rfl, ⟨F', fun k hk => (hF' k hk).imp id (fun h => by omega), HL.out⟩, (hs1.mono fun _ _ _ => trivial).trans HSB.out⟩
    · intro vs wR hvl hvp hsR
      rcases vs with _ | ⟨z1, _ | ⟨z2, _ | ⟨z3, _ | ⟨z4, _ | ⟨z5, _ | ⟨z6, _ | ⟨z7, _ | ⟨z8, _ | ⟨zz, zr⟩⟩⟩⟩⟩⟩⟩⟩⟩
      rotate_right 1
      · simp at hvl
      · simp at hvl
      · simp at hvl
      · simp at hvl
      · simp at hvl
      · simp at hvl
      · simp at hvl
      · simp at hvl
      · simp at hvl
      · obtain rfl : z1 = (ptr p) := hvp 0 (by omega)
        obtain rfl : z2 = (ptr p) := hvp 1 (by omega)
        obtain rfl : z3 = (.pointer (some ⟨p, 0, none⟩)) := hvp 2 (by omega)
        obtain rfl : z4 = (ptr g) := hvp 3 (by omega)
        obtain rfl : z5 = (ptr p) := hvp 4 (by omega)
        obtain rfl : z6 = (ptr p) := hvp 5 (by omega)
        obtain rfl : z7 = (.pointer (some ⟨p, 3, none⟩)) := hvp 6 (by omega)
        obtain rfl : z8 = (.int .i64 l.f) := hvp 7 (by omega)
        clear hvl hvp
        simp only [putAll, Act.put, List.setIfInBounds_toArray, List.set_cons_succ, List.set_cons_zero, List.take_succ_cons, List.take_zero, List.drop_succ_cons, List.drop_zero, List.eraseIdx_cons_succ, List.eraseIdx_cons_zero]
        go_wp2_with (go_at_call 32; refine stopAt ?_)
        unfold Hid
        refine (dsync_any g r F d l.f _ (H1.out.disk.keepAll hsR) hd).mono ?_
        rintro e wa ⟨rfl, ⟨F', hF', hd'⟩, hsA⟩
        go_wp2_with (go_at_call 44; refine stopAt ?_)
        unfold Hid
        have hLR := H1.out.keepAll hsR
        refine (wfails_any p g l _ wa (hLR.wal.keep hsA ⟨hLR.pg, hLR.pr⟩)).mono ?_
        rintro e wb ⟨rfl, hw', hsB⟩
        obtain ⟨hL, hS⟩ := LogAt.after hLR hF' hd' hsA hw' hsB
        have HL := Lib.hid hL
        have HSB := Lib.hid ((hsR.mono (S' := Lk p g r) fun _ _ _ => trivial).trans hS)
        go_wp2
        go_ret
        have hz1 := hs1.size
        have hzR := hsR.size
        exact ⟨rfl, ⟨F', fun k hk => (hF' k hk).imp id (fun h => by omega), HL.out⟩, (hs1.mono fun _ _ _ => trivial).trans HSB.out⟩
set_option maxRecDepth 100000 in
set_option maxHeartbeats 2000000 in
theorem wappend_any (p g r : Nat) (F S : Nat → Prop) (d : DiskM) (l : WalM) (v : Value) (bs : List UInt8) (w : World) (h : LogAt w p g r F d l) (hd : d.Fit) (hv : By w S v bs) (hb : bs.length ≤ 19000)
    (hlen : (d.file l.f).b.length + (9 + bs.length) ≤ 4194304) (hl : l.Fit) :
    Calls Try.prog 18 #[ptr p, v] w (WPost p g r F w (appendW d l bs).1 (appendW d l bs).2.1 (appendW d l bs).2.2) := by
  have hn := fun w (h : WalAt w p g l) => wnone_any p g l w h
  have hov := wover_any p g r F d l w h.wal h.disk
  have h0 := h.wal
  unfold appendW
  have H := Lib.hid h
  obtain ⟨hl5, hl6, -⟩ := hl
  obtain ⟨A, ca, rfl, hca, hma, -⟩ := id hv
  have HV := Lib.hid hv
  clear h hv
  by_cases ho : l.over d = true
  · rw [if_pos ho]
    rw [ho] at hov
    have HO := Lib.hid ho
    clear ho
    go_enter Try.func18, Try.ntmps18
    go_wp2_with (first | (go_at_call 41; refine (hn _ h0).mono ?_; rintro e w1 ⟨rfl, rfl⟩) | (go_at_call 42; refine hov.mono ?_; rintro e w1 ⟨rfl, hs1⟩))
    go_ret
    exact ⟨rfl, ⟨F, fun _ h => Or.inl h, H.out.keepAll hs1⟩, hs1.mono fun _ _ _ => trivial⟩
  · rw [if_neg ho]
    have ho : l.over d = false := by simpa using ho
    rw [ho] at hov
    have HO := Lib.hid ho
    clear ho
    obtain ⟨⟨x, d'⟩, hX⟩ : ∃ X, X = d.append l.f (recF (82 :: bs)) := ⟨_, rfl⟩
    rw [← hX]
    have HX := Lib.hid hX.symm
    clear hX
    by_cases hx : x = 0
    · subst hx
      rw [if_pos rfl]
      go_enter Try.func18, Try.ntmps18
      go_wp2_with (first | (go_at_call 41; refine (hn _ h0).mono ?_; rintro e w1 ⟨rfl, rfl⟩) | (go_at_call 42; refine hov.mono ?_; rintro e w1 ⟨rfl, hs1⟩) | (at_builtin; refine stopAt ?_))
      unfold Hid
      have hsB : Same (fun _ => True) w1 (w1.alloc (.cells #[.int .u8 82] 5)) := (Same.refl _ _).alloc _
      have hown : OwnB (w1.alloc (.cells #[.int .u8 82] 5)) w1.heap.size (.slice (some ⟨w1.heap.size, 0, none⟩) 1 1) [82] :=
        (Row.new w1 5 [.int .u8 82]).owns (base := w1.heap.size) (size := 1) (n := 1) (cap := 1) (Nat.le_refl _) (by simp) (by omega) (by simp [maxLen])
      refine wpList_appB rfl (.tmp 19) (.tmp 20) rfl rfl rfl hown ((HV.out.keep (hs1.mono fun _ _ _ => trivial)).keep (hsB.mono fun _ _ _ => trivial)) (by simp) (by simp; omega) ?_
      intro v2 w2 hown2 hs2 hob2
      have HS2 : Hid (Same (fun _ => True) w1 w2) := Lib.hid (hsB.trans' hs2 fun k hk _ e => by
        have e : some k = some w1.heap.size := e
        injection e with e
        omega)
      obtain ⟨A2, c2, rfl, -, -⟩ := hown2.form
      have hfp := fput_any (.slice none 0 0) _ [] (82 :: bs) (fun _ => True) _ w2 ⟨none, 0, rfl, by simp, by simp [maxLen], Sl.nil _ _ _ _⟩ hown2.by_ (by simp) (by simp; omega)
      rw [List.nil_append] at hfp
      clear hob2 hs2 hown2 hown hsB
      go_wp2_with (go_at_call 43; refine hfp.mono ?_; rintro e w3 ⟨u3, rfl, hb5, hs3⟩; obtain ⟨A5, n5, rfl, -, -⟩ := hb5.form)
      clear hfp
      have HS1 : Hid (Same (fun _ => True) w w3) := Lib.hid ((hs1.trans HS2.out).trans hs3)
      have H1 := Lib.hid (H.out.keepAll HS1.out)
      have HB5 := Lib.hid hb5
      have c0 := H1.out.wal.cell 0
      have c3 := H1.out.wal.cell 3
      have hlt := Row.lt H1.out.wal
      have hrl : (recF (82 :: bs)).length ≤ 20000 := by rw [recF_len]; simp; omega
      simp at c0 c3
      clear hn h0 hov hs1 HS2 hs3 hb5
      refine wp_region_tail_d (L := [.eq (ptr p), .eq (ptr p), .eq (ptr p), .eq (.pointer (some ⟨p, 0, none⟩)), .eq (ptr g), .eq (ptr p), .eq (ptr p), .eq (.pointer (some ⟨p, 3, none⟩)), .eq (.int .i64 l.f), .eq (.slice A5 (recF (82 :: bs)).length n5)]) 10 0 (by omega) (by kernel_rfl) (by kernel_rfl) rfl rfl rfl rfl rfl rfl ?_ ?_ ?_
      · refine ⟨?_, ?_, ?_, ?_, ?_, ?_, ?_, ?_, ?_, ?_, trivial⟩
        · intro ac wc hs hd hz hf hw K hK
          have e0 : ac.eval (.tmp 0) = (ptr p) := hf 0 rfl
          clear hd hz hf hw
          simp only [Region.wanted, if_true, Oper.wp, execOp, resolve, List.map_toArray, List.map_cons, List.map_nil, Option.map_some, Option.map_none, e0]
          go_simp
          exact hK _ _ rfl (Same.refl _ _)
        · intro ac wc hs hd hz hf hw K hK
          have e0 : ac.eval (.tmp 0) = (ptr p) := hf 0 rfl
          clear hd hz hf hw
          simp only [Region.wanted, if_true, Oper.wp, execOp, resolve, List.map_toArray, List.map_cons, List.map_nil, Option.map_some, Option.map_none, e0]
          go_simp
          exact hK _ _ rfl (Same.refl _ _)
        · intro ac wc hs hd hz hf hw K hK
          have e0 : ac.eval (.tmp 26) = (ptr p) := hw 1 rfl
          clear hd hz hf hw
          simp only [Region.wanted, if_true, Oper.wp, execOp, resolve, List.map_toArray, List.map_cons, List.map_nil, Option.map_some, Option.map_none, e0]
          go_simp
          exact hK _ _ rfl (Same.refl _ _)
        · intro ac wc hs hd hz hf hw K hK
          have e0 : ac.eval (.tmp 27) = (ptr p) := hw 2 rfl
          clear hd hz hf hw
          simp only [Region.wanted, if_true, Oper.wp, execOp, resolve, List.map_toArray, List.map_cons, List.map_nil, Option.map_some, Option.map_none, e0]
          go_simp
          exact hK _ _ rfl (Same.refl _ _)
        · intro ac wc hs hd hz hf hw K hK
          have e0 : ac.eval (.tmp 28) = (.pointer (some ⟨p, 0, none⟩)) := hw 3 rfl
          have m0 : wc.cell? ⟨p, 0, none⟩ = some (ptr g) := hs.cell (p := ⟨p, 0, none⟩) trivial c0
          clear hd hz hf hw
          simp only [Region.wanted, if_true, Oper.wp, execOp, resolve, List.map_toArray, List.map_cons, List.map_nil, Option.map_some, Option.map_none, e0]
          go_simp
          exact hK _ _ rfl (Same.refl _ _)
        · intro ac wc hs hd hz hf hw K hK
          have e0 : ac.eval (.tmp 0) = (ptr p) := hf 0 rfl
          clear hd hz hf hw
          simp only [Region.wanted, if_true, Oper.wp, execOp, resolve, List.map_toArray, List.map_cons, List.map_nil, Option.map_some, Option.map_none, e0]
          go_simp
          exact hK _ _ rfl (Same.refl _ _)
        · intro ac wc hs hd hz hf hw K hK
          have e0 : ac.eval (.tmp 30) = (ptr p) := hw 5 rfl
          clear hd hz hf hw
          simp only [Region.wanted, if_true, Oper.wp, execOp, resolve, List.map_toArray, List.map_cons, List.map_nil, Option.map_some, Option.map_none, e0]
          go_simp
          exact hK _ _ rfl (Same.refl _ _)
        · intro ac wc hs hd hz hf hw K hK
          have e0 : ac.eval (.tmp 31) = (ptr p) := hw 6 rfl
          clear hd hz hf hw
          simp only [Region.wanted, if_true, Oper.wp, execOp, resolve, List.map_toArray, List.map_cons, List.map_nil, Option.map_some, Option.map_none, e0]
          go_simp
          exact hK _ _ rfl (Same.refl _ _)
        · intro ac wc hs hd hz hf hw K hK
          have e0 : ac.eval (.tmp 32) = (.pointer (some ⟨p, 3, none⟩)) := hw 7 rfl
          have m0 : wc.cell? ⟨p, 3, none⟩ = some (.int .i64 l.f) := hs.cell (p := ⟨p, 3, none⟩) trivial c3
          clear hd hz hf hw
          simp only [Region.wanted, if_true, Oper.wp, execOp, resolve, List.map_toArray, List.map_cons, List.map_nil, Option.map_some, Option.map_none, e0]
          go_simp
          exact hK _ _ rfl (Same.refl _ _)
        · intro ac wc hs hd hz hf hw K hK
          have e0 : ac.eval (.tmp 5) = (.slice A5 (recF (82 :: bs)).length n5) := hf 5 rfl
          clear hd hz hf hw
          simp only [Region.wanted, if_true, Oper.wp, execOp, resolve, List.map_toArray, List.map_cons, List.map_nil, Option.map_some, Option.map_none, e0]
          go_simp
          exact hK _ _ rfl (Same.refl _ _)
      · intro vs wR hvl hvp hsR
        rcases vs with _ | ⟨z0, _ | ⟨z1, _ | ⟨z2, _ | ⟨z3, _ | ⟨z4, _ | ⟨z5, _ | ⟨z6, _ | ⟨z7, _ | ⟨z8, _ | ⟨z9, _ | ⟨zz, zr⟩⟩⟩⟩⟩⟩⟩⟩⟩⟩⟩
        rotate_right 1
        · simp at hvl
        · simp at hvl
        · simp at hvl
        · simp at hvl
        · simp at hvl
        · simp at hvl
        · simp at hvl
        · simp at hvl
        · simp at hvl
        · simp at hvl
        · simp at hvl
        · obtain rfl : z0 = (ptr p) := hvp 0 (by omega)
          obtain rfl : z1 = (ptr p) := hvp 1 (by omega)
          obtain rfl : z2 = (ptr p) := hvp 2 (by omega)
          obtain rfl : z3 = (.pointer (some ⟨p, 0, none⟩)) := hvp 3 (by omega)
          obtain rfl : z4 = (ptr g) := hvp 4 (by omega)
          obtain rfl : z5 = (ptr p) := hvp 5 (by omega)
          obtain rfl : z6 = (ptr p) := hvp 6 (by omega)
          obtain rfl : z7 = (.pointer (some ⟨p, 3, none⟩)) := hvp 7 (by omega)
          obtain rfl : z8 = (.int .i64 l.f) := hvp 8 (by omega)
          obtain rfl : z9 = (.slice A5 (recF (82 :: bs)).length n5) := hvp 9 (by omega)
          clear hvl hvp
          simp only [putAll, Act.put, List.setIfInBounds_toArray, List.set_cons_succ, List.set_cons_zero, List.take_succ_cons, List.take_zero, List.drop_succ_cons, List.drop_zero, List.eraseIdx_cons_succ, List.eraseIdx_cons_zero]
          go_wp2_with (go_at_call 13; refine stopAt ?_)
          unfold Hid
          have happ := dappend_any g r F _ d l.f _ _ _ (H1.out.disk.keepAll hsR) hd ((HB5.out.by_).keepAll hsR) (by rw [recF_len]; simp only [List.length_cons]; omega)
          rw [HX.out] at happ
          refine happ.mono ?_
          rintro e wa ⟨rfl, ⟨F', hF', hd'⟩, hsA⟩
          clear happ
          go_wp2_with (go_at_call 44; refine stopAt ?_)
          unfold Hid
          have hLR := H1.out.keepAll hsR
          refine (wfails_any p g l _ wa (hLR.wal.keep hsA ⟨hLR.pg, hLR.pr⟩)).mono ?_
          rintro e wb ⟨rfl, hw', hsB⟩
          obtain ⟨hL, hS⟩ := LogAt.after hLR hF' hd' hsA hw' hsB
          have HL := Lib.hid hL
          have HSB := Lib.hid ((hsR.mono (S' := Lk p g r) fun _ _ _ => trivial).trans hS)
          rw [WalM.fails0] at HL
          clear hd' hsA hw' hsB hS hL hLR c0 c3 hlt
          have c5 := HL.out.wal.cell 5
          have c6 := HL.out.wal.cell 6
          have z5 := HL.out.wal.frozen 5
          have z6 := HL.out.wal.frozen 6
          have hlt := Row.lt HL.out.wal
          simp at c5 c6
          go_wp2
          go_ret
          have hz1 := HS1.out.size
          have hzR := hsR.size
          have hs9 : Same (fun k => k ≠ p) wb ((wb.setCell ⟨p, 5, none⟩ (.int .i64 (l.count + 1))).setCell ⟨p, 6, none⟩ (.int .i64 (l.bytes + (recF (82 :: bs)).length))) := ((Same.refl _ _).setCell (fun _ h => h rfl) _).setCell (fun _ h => h rfl) _
          have hw9 := (HL.out.wal.set_ 5 (.int .i64 (l.count + 1))).set_ 6 (.int .i64 (l.bytes + (recF (82 :: bs)).length))
          refine ⟨rfl, ⟨F', fun k hk => (hF' k hk).imp id (fun h => by omega), ⟨HL.out.disk.keep hs9 HL.out.pg.symm HL.out.pr.symm (fun k hk e => HL.out.pF (e ▸ hk)), ?_, HL.out.pF, HL.out.pg, HL.out.pr⟩⟩, ((HS1.out.mono fun _ _ _ => trivial).trans HSB.out).trans (hs9.mono fun k _ hk => hk.2.2)⟩
          have e : ((recF (82 :: bs)).length : Int) = ((9 + bs.length : Nat) : Int) := by rw [recF_len]; simp; omega
          rw [e] at hw9
          have e1 : (l.count : Int) + 1 = ((l.count + 1 : Nat) : Int) := by omega
          have e2 : (l.bytes : Int) + ((9 + bs.length : Nat) : Int) = ((l.bytes + (9 + bs.length) : Nat) : Int) := by omega
          rw [e1, e2] at hw9
          rw [e, e1, e2]
          exact hw9
      · intro vs wR hvl hvp hsR
        rcases vs with _ | ⟨z1, _ | ⟨z2, _ | ⟨z3, _ | ⟨z4, _ | ⟨z5, _ | ⟨z6, _ | ⟨z7, _ | ⟨z8, _ | ⟨z9, _ | ⟨zz, zr⟩⟩⟩⟩⟩⟩⟩⟩⟩⟩
        rotate_right 1
        · simp at hvl
        · simp at hvl
        · simp at hvl
        · simp at hvl
        · simp at hvl
        · simp at hvl
        · simp at hvl
        · simp at hvl
        · simp at hvl
        · simp at hvl
        · obtain rfl : z1 = (ptr p) := hvp 0 (by omega)
          obtain rfl : z2 = (ptr p) := hvp 1 (by omega)
          obtain rfl : z3 = (.pointer (some ⟨p, 0, none⟩)) := hvp 2 (by omega)
          obtain rfl : z4 = (ptr g) := hvp 3 (by omega)
          obtain rfl : z5 = (ptr p) := hvp 4 (by omega)
          obtain rfl : z6 = (ptr p) := hvp 5 (by omega)
          obtain rfl : z7 = (.pointer (some ⟨p, 3, none⟩)) := hvp 6 (by omega)
          obtain rfl : z8 = (.int .i64 l.f) := hvp 7 (by omega)
          obtain rfl : z9 = (.slice A5 (recF (82 :: bs)).length n5) := hvp 8 (by omega)
          clear hvl hvp
          simp only [putAll, Act.put, List.setIfInBounds_toArray, List.set_cons_succ, List.set_cons_zero, List.take_succ_cons, List.take_zero, List.drop_succ_cons, List.drop_zero, List.eraseIdx_cons_succ, List.eraseIdx_cons_zero]
          go_wp2_with (go_at_call 13; refine stopAt ?_)
          unfold Hid
          have happ := dappend_any g r F _ d l.f _ _ _ (H1.out.disk.keepAll hsR) hd ((HB5.out.by_).keepAll hsR) (by rw [recF_len]; simp only [List.length_cons]; omega)
          rw [HX.out] at happ
          refine happ.mono ?_
          rintro e wa ⟨rfl, ⟨F', hF', hd'⟩, hsA⟩
          clear happ
          go_wp2_with (go_at_call 44; refine stopAt ?_)
          unfold Hid
          have hLR := H1.out.keepAll hsR
          refine (wfails_any p g l _ wa (hLR.wal.keep hsA ⟨hLR.pg, hLR.pr⟩)).mono ?_
          rintro e wb ⟨rfl, hw', hsB⟩
          obtain ⟨hL, hS⟩ := LogAt.after hLR hF' hd' hsA hw' hsB
          have HL := Lib.hid hL
          have HSB := Lib.hid ((hsR.mono (S' := Lk p g r) fun _ _ _ => trivial).trans hS)
          rw [WalM.fails0] at HL
          clear hd' hsA hw' hsB hS hL hLR c0 c3 hlt
          have c5 := HL.out.wal.cell 5
          have c6 := HL.out.wal.cell 6
          have z5 := HL.out.wal.frozen 5
          have z6 := HL.out.wal.frozen 6
          have hlt := Row.lt HL.out.wal
          simp at c5 c6
          go_wp2
          go_ret
          have hz1 := HS1.out.size
          have hzR := hsR.size
          have hs9 : Same (fun k => k ≠ p) wb ((wb.setCell ⟨p, 5, none⟩ (.int .i64 (l.count + 1))).setCell ⟨p, 6, none⟩ (.int .i64 (l.bytes + (recF (82 :: bs)).length))) := ((Same.refl _ _).setCell (fun _ h => h rfl) _).setCell (fun _ h => h rfl) _
          have hw9 := (HL.out.wal.set_ 5 (.int .i64 (l.count + 1))).set_ 6 (.int .i64 (l.bytes + (recF (82 :: bs)).length))
          refine ⟨rfl, ⟨F', fun k hk => (hF' k hk).imp id (fun h => by omega), ⟨HL.out.disk.keep hs9 HL.out.pg.symm HL.out.pr.symm (fun k hk e => HL.out.pF (e ▸ hk)), ?_, HL.out.pF, HL.out.pg, HL.out.pr⟩⟩, ((HS1.out.mono fun _ _ _ => trivial).trans HSB.out).trans (hs9.mono fun k _ hk => hk.2.2)⟩
          have e : ((recF (82 :: bs)).length : Int) = ((9 + bs.length : Nat) : Int) := by rw [recF_len]; simp; omega
          rw [e] at hw9
          have e1 : (l.count : Int) + 1 = ((l.count + 1 : Nat) : Int) := by omega
          have e2 : (l.bytes : Int) + ((9 + bs.length : Nat) : Int) = ((l.bytes + (9 + bs.length) : Nat) : Int) := by omega
          rw [e1, e2] at hw9
          rw [e, e1, e2]
          exact hw9
    · have hpost : (if x = 0 then { l with count := l.count + 1, bytes := l.bytes + (9 + bs.length) } else l.fails x) = l.fails x := if_neg hx
      show Calls _ _ _ _ (WPost p g r F w x d' (if x = 0 then { l with count := l.count + 1, bytes := l.bytes + (9 + bs.length) } else l.fails x))
      rw [hpost]
      clear hpost
      go_enter Try.func18, Try.ntmps18
      go_wp2_with (first | (go_at_call 41; refine (hn _ h0).mono ?_; rintro e w1 ⟨rfl, rfl⟩) | (go_at_call 42; refine hov.mono ?_; rintro e w1 ⟨rfl, hs1⟩) | (at_builtin; refine stopAt ?_))
      unfold Hid
      have hsB : Same (fun _ => True) w1 (w1.alloc (.cells #[.int .u8 82] 5)) := (Same.refl _ _).alloc _
      have hown : OwnB (w1.alloc (.cells #[.int .u8 82] 5)) w1.heap.size (.slice (some ⟨w1.heap.size, 0, none⟩) 1 1) [82] :=
        (Row.new w1 5 [.int .u8 82]).owns (base := w1.heap.size) (size := 1) (n := 1) (cap := 1) (Nat.le_refl _) (by simp) (by omega) (by simp [maxLen])
      refine wpList_appB rfl (.tmp 19) (.tmp 20) rfl rfl rfl hown ((HV.out.keep (hs1.mono fun _ _ _ => trivial)).keep (hsB.mono fun _ _ _ => trivial)) (by simp) (by simp; omega) ?_
      intro v2 w2 hown2 hs2 hob2
      have HS2 : Hid (Same (fun _ => True) w1 w2) := Lib.hid (hsB.trans' hs2 fun k hk _ e => by
        have e : some k = some w1.heap.size := e
        injection e with e
        omega)
      obtain ⟨A2, c2, rfl, -, -⟩ := hown2.form
      have hfp := fput_any (.slice none 0 0) _ [] (82 :: bs) (fun _ => True) _ w2 ⟨none, 0, rfl, by simp, by simp [maxLen], Sl.nil _ _ _ _⟩ hown2.by_ (by simp) (by simp; omega)
      rw [List.nil_append] at hfp
      clear hob2 hs2 hown2 hown hsB
      go_wp2_with (go_at_call 43; refine hfp.mono ?_; rintro e w3 ⟨u3, rfl, hb5, hs3⟩; obtain ⟨A5, n5, rfl, -, -⟩ := hb5.form)
      clear hfp
      have HS1 : Hid (Same (fun _ => True) w w3) := Lib.hid ((hs1.trans HS2.out).trans hs3)
      have H1 := Lib.hid (H.out.keepAll HS1.out)
      have HB5 := Lib.hid hb5
      have c0 := H1.out.wal.cell 0
      have c3 := H1.out.wal.cell 3
      have hlt := Row.lt H1.out.wal
      have hrl : (recF (82 :: bs)).length ≤ 20000 := by rw [recF_len]; simp; omega
      simp at c0 c3
      clear hn h0 hov hs1 HS2 hs3 hb5
      refine wp_region_tail_d (L := [.eq (ptr p), .eq (ptr p), .eq (ptr p), .eq (.pointer (some ⟨p, 0, none⟩)), .eq (ptr g), .eq (ptr p), .eq (ptr p), .eq (.pointer (some ⟨p, 3, none⟩)), .eq (.int .i64 l.f), .eq (.slice A5 (recF (82 :: bs)).length n5)]) 10 0 (by omega) (by kernel_rfl) (by kernel_rfl) rfl rfl rfl rfl rfl rfl ?_ ?_ ?_
      · refine ⟨?_, ?_, ?_, ?_, ?_, ?_, ?_, ?_, ?_, ?_, trivial⟩
        · intro ac wc hs hd hz hf hw K hK
          have e0 : ac.eval (.tmp 0) = (ptr p) := hf 0 rfl
          clear hd hz hf hw
          simp only [Region.wanted, if_true, Oper.wp, execOp, resolve, List.map_toArray, List.map_cons, List.map_nil, Option.map_some, Option.map_none, e0]
          go_simp
          exact hK _ _ rfl (Same.refl _ _)
        · intro ac wc hs hd hz hf hw K hK
          have e0 : ac.eval (.tmp 0) = (ptr p) := hf 0 rfl
          clear hd hz hf hw
          simp only [Region.wanted, if_true, Oper.wp, execOp, resolve, List.map_toArray, List.map_cons, List.map_nil, Option.map_some, Option.map_none, e0]
          go_simp
          exact hK _ _ rfl (Same.refl _ _)
        · intro ac wc hs hd hz hf hw K hK
          have e0 : ac.eval (.tmp 26) = (ptr p) := hw 1 rfl
          clear hd hz hf hw
          simp only [Region.wanted, if_true, Oper.wp, execOp, resolve, List.map_toArray, List.map_cons, List.map_nil, Option.map_some, Option.map_none, e0]
          go_simp
          exact hK _ _ rfl (Same.refl _ _)
        · intro ac wc hs hd hz hf hw K hK
          have e0 : ac.eval (.tmp 27) = (ptr p) := hw 2 rfl
          clear hd hz hf hw
          simp only [Region.wanted, if_true, Oper.wp, execOp, resolve, List.map_toArray, List.map_cons, List.map_nil, Option.map_some, Option.map_none, e0]
          go_simp
          exact hK _ _ rfl (Same.refl _ _)
        · intro ac wc hs hd hz hf hw K hK
          have e0 : ac.eval (.tmp 28) = (.pointer (some ⟨p, 0, none⟩)) := hw 3 rfl
          have m0 : wc.cell? ⟨p, 0, none⟩ = some (ptr g) := hs.cell (p := ⟨p, 0, none⟩) trivial c0
          clear hd hz hf hw
          simp only [Region.wanted, if_true, Oper.wp, execOp, resolve, List.map_toArray, List.map_cons, List.map_nil, Option.map_some, Option.map_none, e0]
          go_simp
          exact hK _ _ rfl (Same.refl _ _)
        · intro ac wc hs hd hz hf hw K hK
          have e0 : ac.eval (.tmp 0) = (ptr p) := hf 0 rfl
          clear hd hz hf hw
          simp only [Region.wanted, if_true, Oper.wp, execOp, resolve, List.map_toArray, List.map_cons, List.map_nil, Option.map_some, Option.map_none, e0]
          go_simp
          exact hK _ _ rfl (Same.refl _ _)
        · intro ac wc hs hd hz hf hw K hK
          have e0 : ac.eval (.tmp 30) = (ptr p) := hw 5 rfl
          clear hd hz hf hw
          simp only [Region.wanted, if_true, Oper.wp, execOp, resolve, List.map_toArray, List.map_cons, List.map_nil, Option.map_some, Option.map_none, e0]
          go_simp
          exact hK _ _ rfl (Same.refl _ _)
        · intro ac wc hs hd hz hf hw K hK
          have e0 : ac.eval (.tmp 31) = (ptr p) := hw 6 rfl
          clear hd hz hf hw
          simp only [Region.wanted, if_true, Oper.wp, execOp, resolve, List.map_toArray, List.map_cons, List.map_nil, Option.map_some, Option.map_none, e0]
          go_simp
          exact hK _ _ rfl (Same.refl _ _)
        · intro ac wc hs hd hz hf hw K hK
          have e0 : ac.eval (.tmp 32) = (.pointer (some ⟨p, 3, none⟩)) := hw 7 rfl
          have m0 : wc.cell? ⟨p, 3, none⟩ = some (.int .i64 l.f) := hs.cell (p := ⟨p, 3, none⟩) trivial c3
          clear hd hz hf hw
          simp only [Region.wanted, if_true, Oper.wp, execOp, resolve, List.map_toArray, List.map_cons, List.map_nil, Option.map_some, Option.map_none, e0]
          go_simp
          exact hK _ _ rfl (Same.refl _ _)
        · intro ac wc hs hd hz hf hw K hK
          have e0 : ac.eval (.tmp 5) = (.slice A5 (recF (82 :: bs)).length n5) := hf 5 rfl
          clear hd hz hf hw
          simp only [Region.wanted, if_true, Oper.wp, execOp, resolve, List.map_toArray, List.map_cons, List.map_nil, Option.map_some, Option.map_none, e0]
          go_simp
          exact hK _ _ rfl (Same.refl _ _)
      · intro vs wR hvl hvp hsR
        rcases vs with _ | ⟨z0, _ | ⟨z1, _ | ⟨z2, _ | ⟨z3, _ | ⟨z4, _ | ⟨z5, _ | ⟨z6, _ | ⟨z7, _ | ⟨z8, _ | ⟨z9, _ | ⟨zz, zr⟩⟩⟩⟩⟩⟩⟩⟩⟩⟩⟩
        rotate_right 1
        · simp at hvl
        · simp at hvl
        · simp at hvl
        · simp at hvl
        · simp at hvl
        · simp at hvl
        · simp at hvl
        · simp at hvl
        · simp at hvl
        · simp at hvl
        · simp at hvl
        · obtain rfl : z0 = (ptr p) := hvp 0 (by omega)
          obtain rfl : z1 = (ptr p) := hvp 1 (by omega)
          obtain rfl : z2 = (ptr p) := hvp 2 (by omega)
          obtain rfl : z3 = (.pointer (some ⟨p, 0, none⟩)) := hvp 3 (by omega)
          obtain rfl : z4 = (ptr g) := hvp 4 (by omega)
          obtain rfl : z5 = (ptr p) := hvp 5 (by omega)
          obtain rfl : z6 = (ptr p) := hvp 6 (by omega)
          obtain rfl : z7 = (.pointer (some ⟨p, 3, none⟩)) := hvp 7 (by omega)
          obtain rfl : z8 = (.int .i64 l.f) := hvp 8 (by omega)
          obtain rfl : z9 = (.slice A5 (recF (82 :: bs)).length n5) := hvp 9 (by omega)
          clear hvl hvp
          simp only [putAll, Act.put, List.setIfInBounds_toArray, List.set_cons_succ, List.set_cons_zero, List.take_succ_cons, List.take_zero, List.drop_succ_cons, List.drop_zero, List.eraseIdx_cons_succ, List.eraseIdx_cons_zero]
          go_wp2_with (go_at_call 13; refine stopAt ?_)
          unfold Hid
          have happ := dappend_any g r F _ d l.f _ _ _ (H1.out.disk.keepAll hsR) hd ((HB5.out.by_).keepAll hsR) (by rw [recF_len]; simp only [List.length_cons]; omega)
          rw [HX.out] at happ
          refine happ.mono ?_
          rintro e wa ⟨rfl, ⟨F', hF', hd'⟩, hsA⟩
          clear happ
          go_wp2_with (go_at_call 44; refine stopAt ?_)
          unfold Hid
          have hLR := H1.out.keepAll hsR
          refine (wfails_any p g l _ wa (hLR.wal.keep hsA ⟨hLR.pg, hLR.pr⟩)).mono ?_
          rintro e wb ⟨rfl, hw', hsB⟩
          obtain ⟨hL, hS⟩ := LogAt.after hLR hF' hd' hsA hw' hsB
          have HL := Lib.hid hL
          have HSB := Lib.hid ((hsR.mono (S' := Lk p g r) fun _ _ _ => trivial).trans hS)
          clear hd' hsA hw' hsB hS hL hLR c0 c3
          go_wp2
          go_ret
          have hz1 := HS1.out.size
          have hzR := hsR.size
          exact ⟨rfl, ⟨F', fun k hk => (hF' k hk).imp id (fun h => by omega), HL.out⟩, (HS1.out.mono fun _ _ _ => trivial).trans HSB.out⟩
      · intro vs wR hvl hvp hsR
        rcases vs with _ | ⟨z1, _ | ⟨z2, _ | ⟨z3, _ | ⟨z4, _ | ⟨z5, _ | ⟨z6, _ | ⟨z7, _ | ⟨z8, _ | ⟨z9, _ | ⟨zz, zr⟩⟩⟩⟩⟩⟩⟩⟩⟩⟩
        rotate_right 1
        · simp at hvl
        · simp at hvl
        · simp at hvl
        · simp at hvl
        · simp at hvl
        · simp at hvl
        · simp at hvl
        · simp at hvl
        · simp at hvl
        · simp at hvl
        · obtain rfl : z1 = (ptr p) := hvp 0 (by omega)
          obtain rfl : z2 = (ptr p) := hvp 1 (by omega)
          obtain rfl : z3 = (.pointer (some ⟨p, 0, none⟩)) := hvp 2 (by omega)
          obtain rfl : z4 = (ptr g) := hvp 3 (by omega)
          obtain rfl : z5 = (ptr p) := hvp 4 (by omega)
          obtain rfl : z6 = (ptr p) := hvp 5 (by omega)
          obtain rfl : z7 = (.pointer (some ⟨p, 3, none⟩)) := hvp 6 (by omega)
          obtain rfl : z8 = (.int .i64 l.f) := hvp 7 (by omega)
          obtain rfl : z9 = (.slice A5 (recF (82 :: bs)).length n5) := hvp 8 (by omega)
          clear hvl hvp
          simp only [putAll, Act.put, List.setIfInBounds_toArray, List.set_cons_succ, List.set_cons_zero, List.take_succ_cons, List.take_zero, List.drop_succ_cons, List.drop_zero, List.eraseIdx_cons_succ, List.eraseIdx_cons_zero]
          go_wp2_with (go_at_call 13; refine stopAt ?_)
          unfold Hid
          have happ := dappend_any g r F _ d l.f _ _ _ (H1.out.disk.keepAll hsR) hd ((HB5.out.by_).keepAll hsR) (by rw [recF_len]; simp only [List.length_cons]; omega)
          rw [HX.out] at happ
          refine happ.mono ?_
          rintro e wa ⟨rfl, ⟨F', hF', hd'⟩, hsA⟩
          clear happ
          go_wp2_with (go_at_call 44; refine stopAt ?_)
          unfold Hid
          have hLR := H1.out.keepAll hsR
          refine (wfails_any p g l _ wa (hLR.wal.keep hsA ⟨hLR.pg, hLR.pr⟩)).mono ?_
          rintro e wb ⟨rfl, hw', hsB⟩
          obtain ⟨hL, hS⟩ := LogAt.after hLR hF' hd' hsA hw' hsB
          have HL := Lib.hid hL
          have HSB := Lib.hid ((hsR.mono (S' := Lk p g r) fun _ _ _ => trivial).trans hS)
          clear hd' hsA hw' hsB hS hL hLR c0 c3
          go_wp2
          go_ret
          have hz1 := HS1.out.size
          have hzR := hsR.size
          exact ⟨rfl, ⟨F', fun k hk => (hF' k hk).imp id (fun h => by omega), HL.out⟩, (HS1.out.mono fun _ _ _ => trivial).trans HSB.out⟩
set_option maxRecDepth 100000 in
theorem wcount_any (p g r : Nat) (F : Nat → Prop) (d : DiskM) (l : WalM) (w : World) (h : LogAt w p g r F d l) :
    Calls Try.prog 22 #[ptr p] w (GrowPost (.int .i64 ((if l.over d = true then 0 else l.count : Nat) : Int)) w) := by
  have hn := fun w (h : WalAt w p g l) => wnone_any p g l w h
  have hov := wover_any p g r F d l w h.wal h.disk
  have h0 := h.wal
  have H := Lib.hid h
  clear h
  by_cases ho : l.over d = true
  · rw [if_pos ho]
    rw [ho] at hov
    clear ho
    go_enter Try.func22, Try.ntmps22
    go_wp2_with (first | (go_at_call 41; refine (hn _ h0).mono ?_; rintro e w1 ⟨rfl, rfl⟩) | (go_at_call 42; refine hov.mono ?_; rintro e w1 ⟨rfl, hs1⟩))
    go_ret
    exact ⟨rfl, hs1⟩
  · rw [if_neg ho]
    have ho : l.over d = false := by simpa using ho
    rw [ho] at hov
    clear ho
    go_enter Try.func22, Try.ntmps22
    go_wp2_with (first | (go_at_call 41; refine (hn _ h0).mono ?_; rintro e w1 ⟨rfl, rfl⟩) | (go_at_call 42; refine hov.mono ?_; rintro e w1 ⟨rfl, hs1⟩; have c5 := (H.out.wal.keepAll hs1).cell 5; have hlt := Row.lt (H.out.wal.keepAll hs1); simp at c5))
    go_ret
    exact ⟨rfl, hs1⟩
set_option maxRecDepth 100000 in
theorem wbytes_any (p g r : Nat) (F : Nat → Prop) (d : DiskM) (l : WalM) (w : World) (h : LogAt w p g r F d l) :
    Calls Try.prog 27 #[ptr p] w (GrowPost (.int .i64 ((if l.over d = true then 0 else l.bytes : Nat) : Int)) w) := by
  have hn := fun w (h : WalAt w p g l) => wnone_any p g l w h
  have hov := wover_any p g r F d l w h.wal h.disk
  have h0 := h.wal
  have H := Lib.hid h
  clear h
  by_cases ho : l.over d = true
  · rw [if_pos ho]
    rw [ho] at hov
    clear ho
    go_enter Try.func27, Try.ntmps27
    go_wp2_with (first | (go_at_call 41; refine (hn _ h0).mono ?_; rintro e w1 ⟨rfl, rfl⟩) | (go_at_call 42; refine hov.mono ?_; rintro e w1 ⟨rfl, hs1⟩))
    go_ret
    exact ⟨rfl, hs1⟩
  · rw [if_neg ho]
    have ho : l.over d = false := by simpa using ho
    rw [ho] at hov
    clear ho
    go_enter Try.func27, Try.ntmps27
    go_wp2_with (first | (go_at_call 41; refine (hn _ h0).mono ?_; rintro e w1 ⟨rfl, rfl⟩) | (go_at_call 42; refine hov.mono ?_; rintro e w1 ⟨rfl, hs1⟩; have c5 := (H.out.wal.keepAll hs1).cell 6; have hlt := Row.lt (H.out.wal.keepAll hs1); simp at c5))
    go_ret
    exact ⟨rfl, hs1⟩
end Go.Proofs.Ytpjinngngbifoaa
