/-
  Words, plain models, laws and walks that the claims of this layer share (joined by shake.py). No condition.
-/
import Derived.Test.YtpjinngngbifoaaU1
import Derived.Test.YtpjinngngbifoaaU2
import Derived.Test.YtpjinngngbifoaaU3
import Derived.Test.YtpjinngngbifoaaU4
import Derived.Test.YtpjinngngbifoaaU5
import Derived.Test.YtpjinngngbifoaaU6
import Derived.Test.YtpjinngngbifoaaU7
import Derived.Test.YtpjinngngbifoaaU8
import Derived.Test.YtpjinngngbifoaaU9
import Derived.Test.YtpjinngngbifoaaU10
import Derived.Test.YtpjinngngbifoaaU11
import Derived.Test.YtpjinngngbifoaaU12
import Derived.Test.YtpjinngngbifoaaU13
import Derived.Test.YtpjinngngbifoaaU14
import Derived.Test.YtpjinngngbifoaaU15
import Derived.Test.YtpjinngngbifoaaU16
import Derived.Test.YtpjinngngbifoaaU17
import Derived.Test.YtpjinngngbifoaaU18
import Derived.Test.YtpjinngngbifoaaU19
import Derived.Test.YtpjinngngbifoaaU20
import Derived.Test.YtpjinngngbifoaaU21
import Derived.Test.YtpjinngngbifoaaU22
set_option linter.unusedSimpArgs false
set_option linter.unusedVariables false
namespace Go.Proofs.Ytpjinngngbifoaa
open Go.RowKit
/-- The document's log at x over its disk at h; its records are strings that it owns. -/
structure RefWal (w : World) (x h B : Nat) (l : WalM) (recs : List (List UInt8)) (v : Value) : Prop where
  row : Row w x 93 [ptr h, .int .i64 l.f, .int .u64 l.gen, v, .int .i64 l.lives, .bool l.done]
  own : OwnS w B v recs
  xh : x ≠ h
theorem RefWal.keep {w w' : World} {x h B : Nat} {l : WalM} {recs : List (List UInt8)} {v : Value} {S : Nat → Prop} (H : RefWal w x h B l recs v) (hs : Same S w w') (hx : S x) (hv : ∀ k, v.ownBlock = some k → S k) : RefWal w' x h B l recs v :=
  ⟨H.row.keep hs hx, own_keep H.own hs hv, H.xh⟩
theorem RefWal.keepAll {w w' : World} {x h B : Nat} {l : WalM} {recs : List (List UInt8)} {v : Value} (H : RefWal w x h B l recs v) (hs : Same (fun _ => True) w w') : RefWal w' x h B l recs v := H.keep hs trivial fun _ _ => trivial
def Rx (x h : Nat) (v : Value) (k : Nat) : Prop := k ≠ x ∧ k ≠ h ∧ some k ≠ v.ownBlock
def NewOwn (w : World) (v v' : Value) : Prop := ∀ k, v'.ownBlock = some k → v.ownBlock = some k ∨ w.heap.size ≤ k
/-- What a call on the document's log leaves. -/
def XPost (x h B : Nat) (v : Value) (w : World) (y : Int) (d' : DiskM) (l' : WalM) (recs' : List (List UInt8)) (e : Ending) (w' : World) : Prop :=
  e = .returned (.int .i64 y) ∧ (∃ v', RefWal w' x h B l' recs' v' ∧ NewOwn w v v') ∧ RefAt w' h d' ∧ Same (Rx x h v) w w'
set_option maxRecDepth 100000 in
theorem rover_any (x h B : Nat) (d : DiskM) (l : WalM) (recs : List (List UInt8)) (v : Value) (w : World) (H : RefWal w x h B l recs v) (hd : RefAt w h d) :
    Calls Try.prog 60 #[ptr x] w (GrowPost (.bool (l.over d)) w) := by
  obtain ⟨-, d4, d5, d6, d7⟩ := hd.cells
  have hlh := hd.lt
  obtain ⟨A, c, rfl, -, -⟩ := H.own.form
  have c0 := H.row.cell 0
  have c4 := H.row.cell 4
  have c5 := H.row.cell 5
  have hlx := H.row.lt
  simp at c0 c4 c5
  unfold WalM.over
  obtain ⟨b, hb⟩ : ∃ b, b = l.done := ⟨_, rfl⟩
  rw [← hb] at c5 ⊢
  clear H hd hb
  cases b
  · by_cases hlv : d.lives = l.lives
    · have hn1 : ((d.lives : Int) != (l.lives : Int)) = false := by simp [hlv]
      have hn2 : decide (d.lives ≠ l.lives) = false := by simp [hlv]
      rw [hn2]
      clear hlv hn2
      go_enter Try.func60, Try.ntmps60
      go_wp2
      go_quiet (fail)
      go_wp2
      go_ret
      exact ⟨rfl, (Same.refl _ _).drewN _⟩
    · have hn1 : ((d.lives : Int) != (l.lives : Int)) = true := by simp; omega
      have hn2 : decide (d.lives ≠ l.lives) = true := by simp [hlv]
      rw [hn2]
      clear hlv hn2
      go_enter Try.func60, Try.ntmps60
      go_wp2
      go_quiet (fail)
      go_wp2
      go_ret
      exact ⟨rfl, (Same.refl _ _).drewN _⟩
  · go_enter Try.func60, Try.ntmps60
    go_wp2
    go_quiet (fail)
    go_wp2
    go_ret
    exact ⟨rfl, (Same.refl _ _).drewN _⟩
theorem rfails_any (x h B : Nat) (l : WalM) (recs : List (List UInt8)) (v : Value) (y : Int) (w : World) (H : RefWal w x h B l recs v) :
    Calls Try.prog 73 #[ptr x, .int .i64 y] w fun e w' => e = .returned (.int .i64 y) ∧ RefWal w' x h B (l.fails y) recs v ∧ Same (fun k => k ≠ x) w w' := by
  obtain ⟨A, c, rfl, -, -⟩ := H.own.form
  have c5 := H.row.cell 5
  have z5 := H.row.frozen 5
  have hlt := H.row.lt
  simp at c5
  have HH := Lib.hid H
  clear H
  by_cases hy : y = 0
  · subst hy
    go_enter Try.func73, Try.ntmps73
    go_wp2
    go_ret
    exact ⟨rfl, by simpa [WalM.fails] using HH.out, Same.refl _ _⟩
  · go_enter Try.func73, Try.ntmps73
    go_wp2
    go_ret
    have hs : Same (fun k => k ≠ x) w (w.setCell ⟨x, 5, none⟩ (.bool true)) := (Same.refl _ _).setCell (fun _ h => h rfl) _
    refine ⟨rfl, ⟨?_, own_keep HH.out.own hs (fun k hk e => ?_), HH.out.xh⟩, hs⟩
    · have h1 := HH.out.row.set_ 5 (.bool true)
      have e : l.fails y = { l with done := true } := by simp [WalM.fails, hy]
      rw [e]
      exact h1
    · subst e
      rcases ownsRow_row HH.out.own with ⟨q, -, -⟩ | ⟨g, cap, cur, q, -, hr, -⟩
      · injection q with q1; subst q1; cases hk
      · rw [q] at hk
        have hk : some g = some k := hk
        injection hk with hk
        subst hk
        exact hr.ne HH.out.row (by decide) rfl
theorem RdS_nil (w : World) : RdS w (fun _ => True) (.slice none 0 0) [] := ⟨none, 0, rfl, by simp, by simp [maxLen], Sl.nil _ _ _ _⟩
set_option maxRecDepth 100000 in
set_option maxHeartbeats 1000000 in
theorem rwmay_any (x h B : Nat) (S : Nat → Prop) (d : DiskM) (l : WalM) (recs ss : List (List UInt8)) (v u : Value) (w : World) (H : RefWal w x h B l recs v) (hd : RefAt w h d) (hu : RdS w S u ss) (hl : Hid (∀ r ∈ ss, r.length ≤ 19000)) (hn : ss.length ≤ 100000) :
    Calls Try.prog 72 #[ptr x, u] w (GrowPost (.int .i64 (if l.over d = true then 6 else 0)) w) := by
  have hov := rover_any x h B d l recs v w H hd
  obtain ⟨A, c, rfl, hc, hm, -⟩ := id hu
  have HU := Lib.hid hu
  unfold maxLen at hm
  obtain ⟨N, hN⟩ : ∃ N, N = ss.length := ⟨_, rfl⟩
  rw [← hN] at hc hn ⊢
  have HN := Lib.hid hN
  clear hN hu H hd
  by_cases ho : l.over d = true
  · rw [if_pos ho]
    rw [ho] at hov
    clear ho
    go_enter Try.func72, Try.ntmps72
    go_wp2_with (go_at_call 60; refine hov.mono ?_; rintro e w1 ⟨rfl, hs1⟩)
    go_ret
    exact ⟨rfl, hs1⟩
  · rw [if_neg ho]
    have ho : l.over d = false := by simpa using ho
    rw [ho] at hov
    clear ho
    go_enter Try.func72, Try.ntmps72
    go_wp2_with (go_at_call 60; refine hov.mono ?_; rintro e w1 ⟨rfl, hs1⟩)
    have HS1 := Lib.hid hs1
    clear hs1 hov
    go_loop [5] (fun i => ∃ k : Nat, k ≤ N ∧ i = .int .i64 k) (fun i => N - (intOf i).toNat)
    case atStart => exact ⟨0, by omega, rfl⟩
    case round =>
      obtain ⟨k, hk, rfl⟩ := hrel
      by_cases hkN : k < N
      · have hkr : k < ss.length := by rw [← HN.out]; exact hkN
        obtain ⟨ad, rfl, hck⟩ := (HU.out.keep (HS1.out.mono fun _ _ _ => trivial)).at_ hkr
        have hlk := hl.out _ (List.getElem_mem hkr)
        generalize ss[k] = y at hck hlk
        obtain ⟨s, hs⟩ : ∃ s, s = str y := ⟨_, rfl⟩
        have hsz : s.size ≤ 19000 := by rw [hs, str_size]; exact hlk
        unfold strV at hck
        rw [← hs] at hck
        clear hs hlk
        go_wp2
        go_round
        case rel => exact ⟨k + 1, by omega, by go_num⟩
        case measure => simp [intOf]; omega
      · obtain rfl : N = k := by omega
        go_wp2
        go_ret
        exact ⟨rfl, HS1.out⟩
/-- One step of the document's disk, and what fails notes of it. -/
theorem RefWal.after {w w1 w2 : World} {x h B : Nat} {l l' : WalM} {recs : List (List UInt8)} {v : Value} {d' : DiskM} (H : RefWal w x h B l recs v) (hd : RefAt w1 h d') (hs : Same (fun k => k ≠ h) w w1) (hw : RefWal w2 x h B l' recs v) (hs2 : Same (fun k => k ≠ x) w1 w2) :
    RefAt w2 h d' ∧ Same (Rx x h v) w w2 :=
  ⟨hd.keep hs2 H.xh.symm, (hs.mono fun k _ hk => hk.2.1).trans (hs2.mono fun k _ hk => hk.1)⟩
theorem RefWal.own_ne {w : World} {x h B : Nat} {l : WalM} {recs : List (List UInt8)} {v : Value} {d : DiskM} (H : RefWal w x h B l recs v) (hd : RefAt w h d) : v.ownBlock ≠ some x ∧ v.ownBlock ≠ some h := by
  constructor
  · intro e
    rcases ownsRow_row H.own with ⟨q, -, -⟩ | ⟨g, cap, cur, q, -, hr, -⟩
    · rw [q] at e; cases e
    · rw [q] at e
      have e : some g = some x := e
      injection e with e
      subst e
      exact hr.ne H.row (by decide) rfl
  · intro e
    rcases ownsRow_row H.own with ⟨q, -, -⟩ | ⟨g, cap, cur, q, -, hr, -⟩
    · rw [q] at e; cases e
    · rw [q] at e
      have e : some g = some h := e
      injection e with e
      subst e
      exact hr.ne hd (by decide) rfl
theorem NewOwn.refl (w : World) (v : Value) : NewOwn w v v := fun k h => Or.inl h
set_option maxRecDepth 100000 in
set_option maxHeartbeats 1000000 in
theorem rwsync_any (x h B : Nat) (d : DiskM) (l : WalM) (recs : List (List UInt8)) (v : Value) (w : World) (H : RefWal w x h B l recs v) (hr : RefAt w h d) (hd : d.Fit) :
    Calls Try.prog 55 #[ptr x] w (XPost x h B v w (syncW d l).1 (syncW d l).2.1 (syncW d l).2.2 recs) := by
  have hmy := rwmay_any x h B (fun _ => True) d l recs [] v (.slice none 0 0) w H hr (RdS_nil w) (Lib.hid (by simp)) (by simp)
  have hne := Lib.hid (H.own_ne hr)
  have HR := Lib.hid hr
  have HH := Lib.hid H
  obtain ⟨A, c, rfl, -, -⟩ := H.own.form
  unfold syncW
  clear H hr
  by_cases ho : l.over d = true
  · rw [if_pos ho] at hmy ⊢
    have HO := Lib.hid ho
    clear ho
    go_enter Try.func55, Try.ntmps55
    go_wp2_with (go_at_call 72; refine hmy.mono ?_; rintro e w1 ⟨rfl, hs1⟩)
    go_ret
    exact ⟨rfl, ⟨_, HH.out.keepAll hs1, NewOwn.refl _ _⟩, HR.out.keep hs1 trivial, hs1.mono fun _ _ _ => trivial⟩
  · rw [if_neg ho] at hmy ⊢
    have HO := Lib.hid ho
    clear ho
    go_enter Try.func55, Try.ntmps55
    go_wp2_with (go_at_call 72; refine hmy.mono ?_; rintro e w1 ⟨rfl, hs1⟩)
    have H1 := Lib.hid (HH.out.keepAll hs1)
    have HR1 := Lib.hid (HR.out.keep hs1 trivial)
    have HS1 := Lib.hid hs1
    have c0 := H1.out.row.cell 0
    have c1 := H1.out.row.cell 1
    have hlt := H1.out.row.lt
    simp at c0 c1
    clear hmy hs1
    refine wp_region_tail_d (L := [.eq (ptr x), .eq (ptr x), .eq (ptr x), .eq (.pointer (some ⟨x, 0, none⟩)), .eq (ptr h), .eq (ptr x), .eq (ptr x), .eq (.pointer (some ⟨x, 1, none⟩)), .eq (.int .i64 l.f)]) 9 0 (by omega) (by kernel_rfl) (by kernel_rfl) rfl rfl rfl rfl rfl rfl ?_ ?_ ?_
    · refine ⟨?_, ?_, ?_, ?_, ?_, ?_, ?_, ?_, ?_, trivial⟩
      · intro ac wc hs hd hz hf hw K hK
        have e0 : ac.eval (.tmp 0) = (ptr x) := hf 0 rfl
        clear hd hz hf hw
        simp only [Region.wanted, if_true, Oper.wp, execOp, resolve, List.map_toArray, List.map_cons, List.map_nil, Option.map_some, Option.map_none, e0]
        go_simp
        exact hK _ _ rfl (Same.refl _ _)
      · intro ac wc hs hd hz hf hw K hK
        have e0 : ac.eval (.tmp 0) = (ptr x) := hf 0 rfl
        clear hd hz hf hw
        simp only [Region.wanted, if_true, Oper.wp, execOp, resolve, List.map_toArray, List.map_cons, List.map_nil, Option.map_some, Option.map_none, e0]
        go_simp
        exact hK _ _ rfl (Same.refl _ _)
      · intro ac wc hs hd hz hf hw K hK
        have e0 : ac.eval (.tmp 10) = (ptr x) := hw 1 rfl
        clear hd hz hf hw
        simp only [Region.wanted, if_true, Oper.wp, execOp, resolve, List.map_toArray, List.map_cons, List.map_nil, Option.map_some, Option.map_none, e0]
        go_simp
        exact hK _ _ rfl (Same.refl _ _)
      · intro ac wc hs hd hz hf hw K hK
        have e0 : ac.eval (.tmp 11) = (ptr x) := hw 2 rfl
        clear hd hz hf hw
        simp only [Region.wanted, if_true, Oper.wp, execOp, resolve, List.map_toArray, List.map_cons, List.map_nil, Option.map_some, Option.map_none, e0]
        go_simp
        exact hK _ _ rfl (Same.refl _ _)
      · intro ac wc hs hd hz hf hw K hK
        have e0 : ac.eval (.tmp 12) = (.pointer (some ⟨x, 0, none⟩)) := hw 3 rfl
        have m0 : wc.cell? ⟨x, 0, none⟩ = some (ptr h) := hs.cell (p := ⟨x, 0, none⟩) trivial c0
        clear hd hz hf hw
        simp only [Region.wanted, if_true, Oper.wp, execOp, resolve, List.map_toArray, List.map_cons, List.map_nil, Option.map_some, Option.map_none, e0]
        go_simp
        exact hK _ _ rfl (Same.refl _ _)
      · intro ac wc hs hd hz hf hw K hK
        have e0 : ac.eval (.tmp 0) = (ptr x) := hf 0 rfl
        clear hd hz hf hw
        simp only [Region.wanted, if_true, Oper.wp, execOp, resolve, List.map_toArray, List.map_cons, List.map_nil, Option.map_some, Option.map_none, e0]
        go_simp
        exact hK _ _ rfl (Same.refl _ _)
      · intro ac wc hs hd hz hf hw K hK
        have e0 : ac.eval (.tmp 14) = (ptr x) := hw 5 rfl
        clear hd hz hf hw
        simp only [Region.wanted, if_true, Oper.wp, execOp, resolve, List.map_toArray, List.map_cons, List.map_nil, Option.map_some, Option.map_none, e0]
        go_simp
        exact hK _ _ rfl (Same.refl _ _)
      · intro ac wc hs hd hz hf hw K hK
        have e0 : ac.eval (.tmp 15) = (ptr x) := hw 6 rfl
        clear hd hz hf hw
        simp only [Region.wanted, if_true, Oper.wp, execOp, resolve, List.map_toArray, List.map_cons, List.map_nil, Option.map_some, Option.map_none, e0]
        go_simp
        exact hK _ _ rfl (Same.refl _ _)
      · intro ac wc hs hd hz hf hw K hK
        have e0 : ac.eval (.tmp 16) = (.pointer (some ⟨x, 1, none⟩)) := hw 7 rfl
        have m0 : wc.cell? ⟨x, 1, none⟩ = some (.int .i64 l.f) := hs.cell (p := ⟨x, 1, none⟩) trivial c1
        clear hd hz hf hw
        simp only [Region.wanted, if_true, Oper.wp, execOp, resolve, List.map_toArray, List.map_cons, List.map_nil, Option.map_some, Option.map_none, e0]
        go_simp
        exact hK _ _ rfl (Same.refl _ _)
    · intro vs wR hvl hvp hsR
      rcases vs with _ | ⟨z0, _ | ⟨z1, _ | ⟨z2, _ | ⟨z3, _ | ⟨z4, _ | ⟨z5, _ | ⟨z6, _ | ⟨z7, _ | ⟨z8, _ | ⟨zz, zr⟩⟩⟩⟩⟩⟩⟩⟩⟩⟩
      rotate_right 1
      · simp at hvl
      · simp at hvl
      · simp at hvl
      · simp at hvl
      · simp at hvl
      · simp at hvl
      · simp at hvl
      · simp at hvl
      · simp at hvl
      · simp at hvl
      · obtain rfl : z0 = (ptr x) := hvp 0 (by omega)
        obtain rfl : z1 = (ptr x) := hvp 1 (by omega)
        obtain rfl : z2 = (ptr x) := hvp 2 (by omega)
        obtain rfl : z3 = (.pointer (some ⟨x, 0, none⟩)) := hvp 3 (by omega)
        obtain rfl : z4 = (ptr h) := hvp 4 (by omega)
        obtain rfl : z5 = (ptr x) := hvp 5 (by omega)
        obtain rfl : z6 = (ptr x) := hvp 6 (by omega)
        obtain rfl : z7 = (.pointer (some ⟨x, 1, none⟩)) := hvp 7 (by omega)
        obtain rfl : z8 = (.int .i64 l.f) := hvp 8 (by omega)
        clear hvl hvp
        simp only [putAll, Act.put, List.setIfInBounds_toArray, List.set_cons_succ, List.set_cons_zero, List.take_succ_cons, List.take_zero, List.drop_succ_cons, List.drop_zero, List.eraseIdx_cons_succ, List.eraseIdx_cons_zero]
        go_wp2_with (go_at_call 74; refine stopAt ?_)
        unfold Hid
        refine (rsync_any h d l.f wR (HR1.out.keep hsR trivial) hd).mono ?_
        rintro e wa ⟨rfl, hda, hsA⟩
        have hwa : RefWal wa x h B l recs (.slice A recs.length c) := (H1.out.keepAll hsR).keep hsA H1.out.xh (fun k hk e => by subst e; exact hne.out.2 hk)
        go_wp2_with (go_at_call 73; refine stopAt ?_)
        unfold Hid
        refine (rfails_any x h B l recs _ _ wa hwa).mono ?_
        rintro e wb ⟨rfl, hwb, hsB⟩
        obtain ⟨hdb, hS⟩ := (H1.out.keepAll hsR).after hda hsA hwb hsB
        go_wp2
        go_ret
        exact ⟨rfl, ⟨_, hwb, NewOwn.refl _ _⟩, hdb, ((HS1.out.trans hsR).mono fun _ _ _ => trivial).trans hS⟩
    · intro vs wR hvl hvp hsR
      rcases vs with _ | ⟨z1, _ | ⟨z2, _ | ⟨z3, _ | ⟨z4, _ | ⟨z5, _ | ⟨z6, _ | ⟨z7, _ | ⟨z8, _ | ⟨zz, zr⟩⟩⟩⟩⟩⟩⟩⟩⟩
      rotate_right 1
      · simp at hvl
      · simp at hvl
      · simp at hvl
      · simp at hvl
      · simp at hvl
      · simp at hvl
      · simp at hvl
      · simp at hvl
      · simp at hvl
      · obtain rfl : z1 = (ptr x) := hvp 0 (by omega)
        obtain rfl : z2 = (ptr x) := hvp 1 (by omega)
        obtain rfl : z3 = (.pointer (some ⟨x, 0, none⟩)) := hvp 2 (by omega)
        obtain rfl : z4 = (ptr h) := hvp 3 (by omega)
        obtain rfl : z5 = (ptr x) := hvp 4 (by omega)
        obtain rfl : z6 = (ptr x) := hvp 5 (by omega)
        obtain rfl : z7 = (.pointer (some ⟨x, 1, none⟩)) := hvp 6 (by omega)
        obtain rfl : z8 = (.int .i64 l.f) := hvp 7 (by omega)
        clear hvl hvp
        simp only [putAll, Act.put, List.setIfInBounds_toArray, List.set_cons_succ, List.set_cons_zero, List.take_succ_cons, List.take_zero, List.drop_succ_cons, List.drop_zero, List.eraseIdx_cons_succ, List.eraseIdx_cons_zero]
        go_wp2_with (go_at_call 74; refine stopAt ?_)
        unfold Hid
        refine (rsync_any h d l.f wR (HR1.out.keep hsR trivial) hd).mono ?_
        rintro e wa ⟨rfl, hda, hsA⟩
        have hwa : RefWal wa x h B l recs (.slice A recs.length c) := (H1.out.keepAll hsR).keep hsA H1.out.xh (fun k hk e => by subst e; exact hne.out.2 hk)
        go_wp2_with (go_at_call 73; refine stopAt ?_)
        unfold Hid
        refine (rfails_any x h B l recs _ _ wa hwa).mono ?_
        rintro e wb ⟨rfl, hwb, hsB⟩
        obtain ⟨hdb, hS⟩ := (H1.out.keepAll hsR).after hda hsA hwb hsB
        go_wp2
        go_ret
        exact ⟨rfl, ⟨_, hwb, NewOwn.refl _ _⟩, hdb, ((HS1.out.trans hsR).mono fun _ _ _ => trivial).trans hS⟩
end Go.Proofs.Ytpjinngngbifoaa
