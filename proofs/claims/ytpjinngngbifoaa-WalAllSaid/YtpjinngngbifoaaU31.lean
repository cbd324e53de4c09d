/-
  Words, plain models, laws and walks that the claims of this layer share (joined by shake.py). No condition.
-/
import Derived.RegionTactic
import Derived.Test.YtpjinngngbifoaaU1
import Derived.Test.YtpjinngngbifoaaU2
import Derived.Test.YtpjinngngbifoaaU3
import Derived.Test.YtpjinngngbifoaaU4
import Derived.Test.YtpjinngngbifoaaU5
import Derived.Test.YtpjinngngbifoaaU6
import Derived.Test.YtpjinngngbifoaaU7
import Derived.Test.YtpjinngngbifoaaU8
import Derived.Test.YtpjinngngbifoaaU9
import Derived.Test.YtpjinngngbifoaaU10
import Derived.Test.YtpjinngngbifoaaU11
import Derived.Test.YtpjinngngbifoaaU12
import Derived.Test.YtpjinngngbifoaaU13
import Derived.Test.YtpjinngngbifoaaU14
import Derived.Test.YtpjinngngbifoaaU15
import Derived.Test.YtpjinngngbifoaaU16
import Derived.Test.YtpjinngngbifoaaU17
import Derived.Test.YtpjinngngbifoaaU18
import Derived.Test.YtpjinngngbifoaaU19
import Derived.Test.YtpjinngngbifoaaU20
import Derived.Test.YtpjinngngbifoaaU21
import Derived.Test.YtpjinngngbifoaaU22
import Derived.Test.YtpjinngngbifoaaU23
import Derived.Test.YtpjinngngbifoaaU24
import Derived.Test.YtpjinngngbifoaaU25
import Derived.Test.YtpjinngngbifoaaU26
import Derived.Test.YtpjinngngbifoaaU27
import Derived.Test.YtpjinngngbifoaaU28
import Derived.Test.YtpjinngngbifoaaU29
import Derived.Test.YtpjinngngbifoaaU30
set_option linter.unusedSimpArgs false
set_option linter.unusedVariables false
namespace Go.Proofs.Ytpjinngngbifoaa
open Go.RowKit
set_option maxRecDepth 100000 in
set_option maxHeartbeats 1000000 in
theorem rrewrite_any (x h B : Nat) (S : Nat → Prop) (d : DiskM) (l : WalM) (recs rs : List (List UInt8)) (v u : Value) (w : World) (H : RefWal w x h B l recs v) (hr : RefAt w h d) (hd : d.Fit) (hds : d.steps + 3 < 1000000) (hB : B ≤ w.heap.size)
    (hu : RdS w S u rs) (hSx : Hid (∀ k, S k → k ≠ x ∧ k ≠ h)) (hf : (fileW 0 rs).length ≤ 19000) (hl : l.gen ≤ 4611686018427387904) :
    Calls Try.prog 57 #[ptr x, u] w (XPost x h B v w (rewriteW d l rs).1 (rewriteW d l rs).2.1 (rewriteW d l rs).2.2 (if (rewriteW d l rs).1 = 0 then rs else recs)) := by
  by_cases ho : l.over d = true
  · have e : rewriteW d l rs = (6, d, l) := by unfold rewriteW; rw [if_pos ho]
    rw [e]
    dsimp only
    rw [if_neg (by decide)]
    have hr9 : Hid (∀ r ∈ rs, r.length ≤ 19000) := Lib.hid fun r hr => by have := mem_flat_le hr; rw [fileW_len] at hf; omega
    have hN9 : rs.length ≤ 2200 := by rw [fileW_len] at hf; omega
    have hmy := rwmay_any x h B S d l recs rs v u w H hr hu hr9 (by omega)
    rw [if_pos ho] at hmy
    have HH := Lib.hid H
    have HR := Lib.hid hr
    obtain ⟨A, c, rfl, hc, hm, -⟩ := id hu
    clear H hr hu ho e hf hr9
    go_enter Try.func57, Try.ntmps57
    go_wp2_with (go_at_call 72; refine hmy.mono ?_; rintro e w1 ⟨rfl, hs1⟩)
    go_ret
    exact ⟨rfl, ⟨_, HH.out.keepAll hs1, NewOwn.refl _ _⟩, HR.out.keep hs1 trivial, hs1.mono fun _ _ _ => trivial⟩
  by_cases hg : 4611686018427387904 ≤ l.gen + 1
  · have e : rewriteW d l rs = (8, d, l) := by unfold rewriteW; rw [if_neg ho, if_pos hg]
    rw [e]
    dsimp only
    rw [if_neg (by decide)]
    have hr9 : Hid (∀ r ∈ rs, r.length ≤ 19000) := Lib.hid fun r hr => by have := mem_flat_le hr; rw [fileW_len] at hf; omega
    have hN9 : rs.length ≤ 2200 := by rw [fileW_len] at hf; omega
    have hmy := rwmay_any x h B S d l recs rs v u w H hr hu hr9 (by omega)
    rw [if_neg ho] at hmy
    have hwr : IntKind.u64.wrap ((l.gen : Int) + 1) = (l.gen : Int) + 1 := by simp [IntKind.wrap, IntKind.bits, IntKind.signed]; omega
    have hgd : decide ((4611686018427387904 : Int) ≤ (l.gen : Int) + 1) = true := decide_eq_true (by omega)
    have HH := Lib.hid H
    have HR := Lib.hid hr
    obtain ⟨A, c, rfl, hc, hm, -⟩ := id hu
    obtain ⟨Av, cv, rfl, -, -⟩ := H.own.form
    clear H hr hu ho e hf hr9 hg hl
    go_enter Try.func57, Try.ntmps57
    go_wp2_with (go_at_call 72; refine hmy.mono ?_; rintro e w1 ⟨rfl, hs1⟩; have hrw := (HH.out.keepAll hs1).row; have c2 := hrw.cell 2; have hlt := hrw.lt; simp at c2)
    go_ret
    exact ⟨rfl, ⟨_, HH.out.keepAll hs1, NewOwn.refl _ _⟩, HR.out.keep hs1 trivial, hs1.mono fun _ _ _ => trivial⟩
  have ho : l.over d = false := by simpa using ho
  cases hfb : l.f == 0
  · exact rrew0 x h B S d l recs rs v u w H hr hd hds hB hu hSx hf ho hg hfb
  · exact rrew1 x h B S d l recs rs v u w H hr hd hds hB hu hSx hf ho hg hfb
end Go.Proofs.Ytpjinngngbifoaa
namespace Go.Proofs.Ytpjinngngbifoaa
open Go.RowKit
theorem pickK_gen {d : DiskM} {m0 m1 : Option LookM} : ∀ k, (pickK d m0 m1 k).f < 0 → (pickK d m0 m1 k).gen = 0 := by
  have key : ∀ (x : PickM) (f : Int) (m : Option LookM) (n : Nat), 0 ≤ f → (x.f < 0 → x.gen = 0) → ((x.look f m n).f < 0 → (x.look f m n).gen = 0) := by
    intro x f m n hf hx h
    cases m with
    | none => exact hx h
    | some m =>
      unfold PickM.look at h ⊢
      dsimp only at h ⊢
      split at h
      · exact absurd h (by show ¬ f < 0; omega)
      · rename_i hc
        rw [if_neg hc]
        exact hx h
  have h1 := key pick0 0 m0 d.f0.b.length (by omega) (fun _ => rfl)
  intro k
  match k with
  | 0 => exact fun _ => rfl
  | 1 => exact h1
  | _ + 2 => exact key _ 1 m1 d.f1.b.length (by omega) h1
def spoilOf (y : PickM) : Bool := decide (y.f < 0) || y.spoil
/-- What holds in the loop of the document's Open. -/
def ROpIn (w : World) (h : Nat) (d : DiskM) (y : PickM) (wr : World) : Prop :=
  ∃ A c, Row wr w.heap.size 93 [ptr h, .int .i64 y.f, .int .u64 y.gen, .slice A y.recs.length c, .int .i64 d.lives, .bool false] ∧ OwnS wr (w.heap.size + 1) (.slice A y.recs.length c) y.recs ∧ Same (fun _ => True) w wr
theorem ROpIn.keepAll {w wr W : World} {h : Nat} {d : DiskM} {y : PickM} (H : ROpIn w h d y wr) (hs : Same (fun _ => True) wr W) : ROpIn w h d y W := by
  obtain ⟨A, c, h1, h2, h3⟩ := H
  exact ⟨A, c, h1.keep hs trivial, own_keepAll h2 hs, h3.trans hs⟩
theorem ROpIn.start (w : World) (h : Nat) (d : DiskM) : ROpIn w h d pick0 (w.alloc (.cells #[ptr h, .int .i64 (-1), .int .u64 0, .slice none 0 0, .int .i64 d.lives, .bool false] 93)) :=
  ⟨none, 0, Row.new w 93 [ptr h, .int .i64 (-1), .int .u64 0, .slice none 0 0, .int .i64 d.lives, .bool false], OwnS.nil _ _, (Same.refl _ _).alloc _⟩
theorem ROpIn.take {w wR : World} {h : Nat} {d : DiskM} {y : PickM} {Ay A4 : Option Addr} {cy c4 : Nat} {recs : List (List UInt8)} (h1 : Row wR w.heap.size 93 [ptr h, .int .i64 y.f, .int .u64 y.gen, .slice Ay y.recs.length cy, .int .i64 d.lives, .bool false])
    (h3 : OwnS wR (w.heap.size + 1) (.slice A4 recs.length c4) recs) (hs : Same (fun _ => True) w wR) (k : Nat) (gen : Nat) (sp : Bool) (n : Nat) :
    ROpIn w h d ⟨k, gen, recs, n, sp⟩ (((wR.setCell ⟨w.heap.size, 1, none⟩ (.int .i64 k)).setCell ⟨w.heap.size, 2, none⟩ (.int .u64 gen)).setCell ⟨w.heap.size, 3, none⟩ (.slice A4 recs.length c4)) := by
  have hS : Same (fun q => q ≠ w.heap.size) wR (((wR.setCell ⟨w.heap.size, 1, none⟩ (.int .i64 k)).setCell ⟨w.heap.size, 2, none⟩ (.int .u64 gen)).setCell ⟨w.heap.size, 3, none⟩ (.slice A4 recs.length c4)) :=
    (((Same.refl _ _).setCell (fun _ h => h rfl) _).setCell (fun _ h => h rfl) _).setCell (fun _ h => h rfl) _
  exact ⟨A4, c4, ((h1.set_ 1 (.int .i64 k)).set_ 2 (.int .u64 gen)).set_ 3 _, own_keep h3 hS fun k hk => by have := own_ge h3 hk.symm; omega, hs.trans' hS fun q hq _ => by omega⟩
def ROpenPost (h : Nat) (w : World) (R : Int × DiskM × Option (WalM × List (List UInt8))) (e : Ending) (w' : World) : Prop :=
  ∃ pv, e = .returned (.tuple #[pv, .int .i64 R.1]) ∧ RefAt w' h R.2.1 ∧ Same (fun k => k ≠ h) w w' ∧
    match R.2.2 with
    | none => pv = .pointer none
    | some (l, recs) => pv = ptr w.heap.size ∧ ∃ v, RefWal w' w.heap.size h w.heap.size l recs v
set_option maxRecDepth 100000 in
set_option maxHeartbeats 4000000 in
theorem ropen_any (h : Nat) (d : DiskM) (m0 m1 : Option LookM) (w : World) (H : RefAt w h d) (hd : d.Fit) (hds : d.steps + 3 < 1000000) (h0 : LookF d.f0.b m0) (h1 : LookF d.f1.b m1) (hb0 : d.f0.b.length ≤ 19000) (hb1 : d.f1.b.length ≤ 19000) :
    Calls Try.prog 48 #[ptr h] w (ROpenPost h w (openW d m0 m1)) := by
  obtain ⟨-, c4, c5, c6, c7⟩ := H.cells
  have hlt : h < w.heap.size := Row.lt H
  have HLEN : Len d 19000 := by
    intro f hf
    rcases hf with rfl | rfl
    · exact hb0
    · exact hb1
  have HH := Lib.hid H
  have H0 := Lib.hid h0
  have H1 := Lib.hid h1
  have HST := Lib.hid (ROpIn.start w h d)
  obtain ⟨R, hR⟩ : ∃ R, R = openW d m0 m1 := ⟨_, rfl⟩
  rw [← hR]
  have HR := Lib.hid hR
  clear hR H h0 h1
  by_cases hoff : d.off = true
  · have HR2 : Hid (R = (6, d, none)) := Lib.hid (by rw [HR.out]; unfold openW; rw [if_pos hoff])
    have hrd : d.read 0 = ([], 6) := by simp [DiskM.read, DiskM.may, hoff]
    have hcl := fun W (hs : Same (fun _ => True) w W) => rread_any h d 0 W (HH.out.keep hs trivial)
    rw [hrd] at hcl
    have hcl := Lib.hid hcl
    clear hoff HR hrd
    go_enter Try.func48, Try.ntmps48
    go_wp2
    go_loopw [5, 6] (fun sp i wr => i = .int .i64 0 ∧ Hid (ROpIn w h d pick0 wr)) (fun _ i _ => 0)
    case atStart => exact ⟨rfl, HST⟩
    case round =>
      obtain ⟨rfl, HI⟩ := hrel
      have hS := HI.out.choose_spec.choose_spec.2.2
      have hcl := hcl.out wr hS
      go_wp2_with (go_at_call 59; refine hcl.mono ?_; rintro e w2 ⟨rfl, rfl⟩)
      refine bodyPost_ret (v := .tuple #[.pointer none, .int .i64 6]) (by simp [results, Try.results48, go_sem]) rfl ?_
      rw [HR2.out]
      exact ⟨_, rfl, HH.out.keep hS trivial, hS.mono fun _ _ _ => trivial, rfl⟩
  have hoff' : d.off = false := by simpa using hoff
  have HR2 : Hid (R = openR d (pickK d m0 m1 2)) := Lib.hid (by rw [HR.out]; unfold openW; rw [if_neg hoff])
  have HOFF := Lib.hid hoff'
  have HFIT := Lib.hid (pickK_fit H0.out H1.out hb0 hb1 2)
  have HGEN := Lib.hid (pickK_gen (d := d) (m0 := m0) (m1 := m1))
  clear hoff hoff' HR
  go_enter Try.func48, Try.ntmps48
  go_wp2
  go_loopw [5, 6] (fun sp i wr => ∃ k : Nat, k ≤ 2 ∧ i = .int .i64 k ∧ sp = .bool (spoilOf (pickK d m0 m1 k)) ∧ Hid (ROpIn w h d (pickK d m0 m1 k) wr)) (fun _ i _ => 2 - (intOf i).toNat)
  case atStart => exact ⟨0, by omega, rfl, rfl, HST⟩
  case round =>
    obtain ⟨k, hk, rfl, rfl, HI⟩ := hrel
    obtain ⟨wo, rfl⟩ : ∃ wo : World, wo = wr := ⟨_, rfl⟩
    clear HST c4 c5 c6 c7
    by_cases hkN : k < 2
    · obtain ⟨B, m, hrd, hfl, hlk, hB, hpk⟩ := pick_step H0.out H1.out HOFF.out hb0 hb1 hkN
      have hge := HGEN.out k
      obtain ⟨y, hy⟩ : ∃ y, y = pickK d m0 m1 k := ⟨_, rfl⟩
      rw [← hy] at HI hpk hge ⊢
      have HPK := Lib.hid hpk
      have HLK := Lib.hid hlk
      have hS0 := HI.out.choose_spec.choose_spec.2.2
      have hcl := rread_any h d k wo (HH.out.keep hS0 trivial)
      rw [hrd] at hcl
      have hlook := rlook_any B wo (by omega)
      clear hpk hlk hrd hy hfl
      obtain ⟨SP, hSP⟩ : ∃ SP, SP = spoilOf y := ⟨_, rfl⟩
      rw [← hSP]
      have HSP := Lib.hid hSP
      clear hSP
      go_wp2_with (first | (go_at_call 59; refine hcl.mono ?_; rintro e w2 ⟨rfl, rfl⟩) | (go_at_call 69; refine stopAt ?_))
      unfold Hid
      refine hlook.mono ?_
      rintro e w3 ⟨gx, A4, n4, c4, sp, ok, m', rfl, hlf, hs3, hm'⟩
      obtain rfl := hlf.uniq HLK.out
      have HI3 := Lib.hid (HI.out.keepAll hs3)
      have hzo : w.heap.size < wo.heap.size := HI.out.choose_spec.choose_spec.1.lt
      clear hlook hlf hS0 HI hcl
      have HI := HI3
      clear HI3
      obtain ⟨Ay, cy, hr1, hown, hsw⟩ := HI.out
      rcases m' with _ | x
      · subst hm'
        go_wp2
        have hal : Same (fun _ => True) w3 (w3.alloc (.cells #[.bool false, .bool sp, .int .u64 gx, .slice A4 n4 c4] 114)) := (Same.refl _ _).alloc _
        have hrow := Row.new w3 114 [.bool false, .bool sp, .int .u64 gx, .slice A4 n4 c4]
        revert hrow hal
        generalize w3.alloc (.cells #[.bool false, .bool sp, .int .u64 gx, .slice A4 n4 c4] 114) = wa
        intro hal hrow
        have q0 := hrow.cell 0
        have q1 := hrow.cell 1
        have q2 := hrow.cell 2
        have q3 := hrow.cell 3
        have lt3 := hrow.lt
        have HIA := Lib.hid (HI.out.keepAll hal)
        have h1 := hr1.keep hal trivial
        have p2 := h1.cell 2
        have lt1 := h1.lt
        simp at q0 q1 q2 q3 p2
        go_quiet (fail)
        go_wp2
        go_roundw
        case rel =>
          refine ⟨k + 1, by omega, by go_num, by rw [HPK.out, HSP.out]; rfl, Lib.hid ?_⟩
          rw [HPK.out]
          exact HIA.out.keepAll ((Same.refl _ _).drewN _)
        case measure => simp [intOf]; omega
      obtain ⟨rfl, rfl, rfl, rfl, hown4⟩ := hm'
      have hg1 := (HLK.out.size).1
      by_cases hyg : y.gen < x.gen
      · have hgd : decide (y.gen < x.gen) = true := decide_eq_true hyg
        have hpk2 : Hid (pickK d m0 m1 (k + 1) = ⟨k, x.gen, x.recs, B.length, x.spoil⟩) := Lib.hid (by rw [HPK.out]; exact if_pos (Or.inr hyg))
        clear hyg
        go_wp2
        have hal : Same (fun _ => True) w3 (w3.alloc (.cells #[.bool true, .bool x.spoil, .int .u64 x.gen, .slice A4 x.recs.length c4] 114)) := (Same.refl _ _).alloc _
        have hrow := Row.new w3 114 [.bool true, .bool x.spoil, .int .u64 x.gen, .slice A4 x.recs.length c4]
        revert hrow hal
        generalize w3.alloc (.cells #[.bool true, .bool x.spoil, .int .u64 x.gen, .slice A4 x.recs.length c4] 114) = wa
        intro hal hrow
        have q0 := hrow.cell 0
        have q1 := hrow.cell 1
        have q2 := hrow.cell 2
        have q3 := hrow.cell 3
        have lt3 := hrow.lt
        have HIA := Lib.hid (HI.out.keepAll hal)
        have h1 := hr1.keep hal trivial
        have p1 := h1.cell 1
        have p2 := h1.cell 2
        have p3 := h1.cell 3
        have z1 := h1.frozen 1
        have z2 := h1.frozen 2
        have z3 := h1.frozen 3
        have lt1 := h1.lt
        have ne3 : w.heap.size < w3.heap.size := hr1.lt
        have HOA := Lib.hid (own_lower (own_keepAll hown4 hal) (show w.heap.size + 1 ≤ wo.heap.size by omega))
        have HSA := Lib.hid (hsw.trans hal)
        have H1A := Lib.hid h1
        clear h1 hrow hal hown4 hown hsw hr1
        simp at q0 q1 q2 q3 p1 p2 p3
        go_quiet (fail)
        go_wp2
        go_region
        go_wp2
        go_roundw
        case rel =>
          refine ⟨k + 1, by omega, by go_num, by rw [hpk2.out]; simp [spoilOf]; intro h; omega, Lib.hid ?_⟩
          rw [hpk2.out]
          exact ROpIn.take (H1A.out.keep ((Same.refl (fun _ => True) _).drewN _) trivial) (own_keepAll HOA.out ((Same.refl _ _).drewN _)) (HSA.out.drewN _) k x.gen x.spoil B.length
        case measure => simp [intOf]; omega
      · have hgd : decide (y.gen < x.gen) = false := decide_eq_false hyg
        have hpk2 : Hid (pickK d m0 m1 (k + 1) = y) := Lib.hid (by rw [HPK.out]; exact if_neg (fun h => by rcases h with h | h <;> first | omega | (have := hge h; omega)))
        clear hyg
        go_wp2
        have hal : Same (fun _ => True) w3 (w3.alloc (.cells #[.bool true, .bool x.spoil, .int .u64 x.gen, .slice A4 x.recs.length c4] 114)) := (Same.refl _ _).alloc _
        have hrow := Row.new w3 114 [.bool true, .bool x.spoil, .int .u64 x.gen, .slice A4 x.recs.length c4]
        revert hrow hal
        generalize w3.alloc (.cells #[.bool true, .bool x.spoil, .int .u64 x.gen, .slice A4 x.recs.length c4] 114) = wa
        intro hal hrow
        have q0 := hrow.cell 0
        have q1 := hrow.cell 1
        have q2 := hrow.cell 2
        have q3 := hrow.cell 3
        have lt3 := hrow.lt
        have HIA := Lib.hid (HI.out.keepAll hal)
        have h1 := hr1.keep hal trivial
        have p1 := h1.cell 1
        have p2 := h1.cell 2
        have p3 := h1.cell 3
        have z1 := h1.frozen 1
        have z2 := h1.frozen 2
        have z3 := h1.frozen 3
        have lt1 := h1.lt
        have ne3 : w.heap.size < w3.heap.size := hr1.lt
        have HOA := Lib.hid (own_lower (own_keepAll hown4 hal) (show w.heap.size + 1 ≤ wo.heap.size by omega))
        have HSA := Lib.hid (hsw.trans hal)
        have H1A := Lib.hid h1
        clear h1 hrow hal hown4 hown hsw hr1
        simp at q0 q1 q2 q3 p1 p2 p3
        go_quiet (fail)
        go_wp2
        go_roundw
        case rel =>
          refine ⟨k + 1, by omega, by go_num, by rw [hpk2.out, HSP.out], Lib.hid ?_⟩
          rw [hpk2.out]
          exact HIA.out.keepAll ((Same.refl _ _).drewN _)
        case measure => simp [intOf]; omega
    · obtain rfl : k = 2 := by omega
      clear hk hkN
      obtain ⟨y, hy⟩ : ∃ y, y = pickK d m0 m1 2 := ⟨_, rfl⟩
      have hLF := pickK_len H0.out H1.out HLEN (by omega) 0
      rw [← hy] at HI HFIT HR2 hLF ⊢
      clear hy
      obtain ⟨Ay, cy, hr1, hown, hsw⟩ := HI.out
      have hzo : w.heap.size < wo.heap.size := hr1.lt
      have hW : RefWal wo w.heap.size h w.heap.size (walOf d y) y.recs (.slice Ay y.recs.length cy) := ⟨hr1, own_lower hown (by omega), by omega⟩
      have hD := HH.out.keep hsw trivial
      have HO := Lib.hid hown
      have HS := Lib.hid hsw
      have p3 := hr1.cell 3
      simp at p3
      by_cases hc : y.f < 0 ∨ y.spoil = true
      · have hsp : spoilOf y = true := by unfold spoilOf; rcases hc with h | h <;> simp [h]
        rw [hsp]
        have HR3 : Hid (R = if (rewriteW d (walOf d y) y.recs).1 ≠ 0 then ((rewriteW d (walOf d y) y.recs).1, (rewriteW d (walOf d y) y.recs).2.1, none) else (0, (rewriteW d (walOf d y) y.recs).2.1, some ((rewriteW d (walOf d y) y.recs).2.2, y.recs))) := Lib.hid (by
          rw [HR2.out]; unfold openR; rw [if_pos hc])
        have hcl := rrewrite_any w.heap.size h w.heap.size (fun k => w.heap.size + 1 ≤ k) d (walOf d y) y.recs y.recs _ _ wo hW hD hd hds (by omega) hown.rd (Lib.hid fun k hk => ⟨by omega, by omega⟩) hLF (Nat.le_of_lt HFIT.out.1)
        obtain ⟨⟨X, dX, lX⟩, hX⟩ : ∃ Z, Z = rewriteW d (walOf d y) y.recs := ⟨_, rfl⟩
        rw [← hX] at HR3 hcl
        clear hc hsp hX hW hD hown hsw hr1 HI HR2
        go_wp2_with (go_at_call 57; refine stopAt ?_)
        unfold Hid
        refine hcl.mono ?_
        rintro e w5 ⟨rfl, ⟨v', hw', hno⟩, hd', hS'⟩
        have HSF : Hid (Same (fun k => k ≠ h) w w5) := Lib.hid ((HS.out.mono (S' := fun k => k ≠ h) (fun _ _ _ => trivial)).trans' hS' fun q hq hh => ⟨by omega, hh, fun e => by have := own_ge HO.out e; omega⟩)
        have HD5 := Lib.hid hd'
        have HW5 := Lib.hid hw'
        clear hcl hd' hw' hS' hno p3
        by_cases hx : X = 0
        · subst hx
          go_wp2
          refine bodyPost_ret (v := .tuple #[ptr w.heap.size, .int .i64 0]) (by simp [results, Try.results48, go_sem]) rfl ?_
          rw [HR3.out, if_neg (by simp)]
          exact ⟨_, rfl, HD5.out, HSF.out, rfl, _, by simpa using HW5.out⟩
        · go_wp2
          refine bodyPost_ret (v := .tuple #[.pointer none, .int .i64 X]) (by simp [results, Try.results48, go_sem]) rfl ?_
          rw [HR3.out, if_pos hx]
          exact ⟨_, rfl, HD5.out, HSF.out, rfl⟩
      · have hsp : spoilOf y = false := by unfold spoilOf; have := not_or.1 hc; simp [this.1, this.2]
        rw [hsp]
        have HR3 : Hid (R = (0, d, some (walOf d y, y.recs))) := Lib.hid (by rw [HR2.out]; unfold openR; rw [if_neg hc])
        have HW := Lib.hid hW
        have HD := Lib.hid hD
        clear hc hsp hW hD hown hsw hr1 HI HR2 p3
        go_wp2
        refine bodyPost_ret (v := .tuple #[ptr w.heap.size, .int .i64 0]) (by simp [results, Try.results48, go_sem]) rfl ?_
        rw [HR3.out]
        exact ⟨_, rfl, HD.out, HS.out.mono fun _ _ _ => trivial, rfl, _, HW.out⟩
end Go.Proofs.Ytpjinngngbifoaa
