/-
  Words, plain models, laws and walks that the claims of this layer share (joined by shake.py). No condition.
-/
import Derived.Test.YtpjinngngbifoaaU1
import Derived.Test.YtpjinngngbifoaaU2
import Derived.Test.YtpjinngngbifoaaU3
import Derived.Test.YtpjinngngbifoaaU4
import Derived.Test.YtpjinngngbifoaaU5
import Derived.Test.YtpjinngngbifoaaU6
import Derived.Test.YtpjinngngbifoaaU7
import Derived.Test.YtpjinngngbifoaaU8
import Derived.Test.YtpjinngngbifoaaU9
import Derived.Test.YtpjinngngbifoaaU10
import Derived.Test.YtpjinngngbifoaaU11
import Derived.Test.YtpjinngngbifoaaU12
import Derived.Test.YtpjinngngbifoaaU13
import Derived.Test.YtpjinngngbifoaaU14
import Derived.Test.YtpjinngngbifoaaU15
import Derived.Test.YtpjinngngbifoaaU16
import Derived.Test.YtpjinngngbifoaaU17
import Derived.Test.YtpjinngngbifoaaU18
import Derived.Test.YtpjinngngbifoaaU19
import Derived.Test.YtpjinngngbifoaaU20
import Derived.Test.YtpjinngngbifoaaU21
import Derived.Test.YtpjinngngbifoaaU22
import Derived.Test.YtpjinngngbifoaaU23
import Derived.Test.YtpjinngngbifoaaU24
import Derived.Test.YtpjinngngbifoaaU25
import Derived.Test.YtpjinngngbifoaaU26
import Derived.Test.YtpjinngngbifoaaU27
import Derived.Test.YtpjinngngbifoaaU28
import Derived.Test.YtpjinngngbifoaaU29
import Derived.Test.YtpjinngngbifoaaU30
import Derived.Test.YtpjinngngbifoaaU31
import Derived.Test.YtpjinngngbifoaaU32
import Derived.Test.YtpjinngngbifoaaU33
set_option linter.unusedSimpArgs false
set_option linter.unusedVariables false
namespace Go.Proofs.Ytpjinngngbifoaa
open Go.RowKit
@[go_sem] theorem eqlW_nil (w : World) (p : Option Addr) : (binOp .eql 34 (.pointer p) (.pointer none)).run Try.prog w = .ok (.bool p.isNone) w := run_eql_pointer_nil w _ p (by kernel_rfl)
@[go_sem] theorem eqlX_nil (w : World) (p : Option Addr) : (binOp .eql 60 (.pointer p) (.pointer none)).run Try.prog w = .ok (.bool p.isNone) w := run_eql_pointer_nil w _ p (by kernel_rfl)
/-- Two disks alike; the struct of both at b, with these logs. -/
structure HalfW (w : World) (B0 b g r h : Nat) (F : Nat → Prop) (d : DiskM) (pv xv : Value) : Prop where
  row : Row w b 62 [ptr g, ptr h, pv, xv]
  disk : DiskAt w g r F d
  ref : RefAt w h d
  apart : ∀ k, F k → B0 ≤ k ∧ k ≠ b ∧ k ≠ h
  lo : B0 ≤ b ∧ B0 ≤ g ∧ B0 ≤ r ∧ B0 ≤ h
/-- The two logs, if there are any. -/
def Ends (w : World) (B0 b g r h : Nat) (F : Nat → Prop) (st : StM) (pv xv : Value) : Prop :=
  match st with
  | none => pv = .pointer none ∧ xv = .pointer none
  | some (l, recs) => ∃ p x u, pv = ptr p ∧ xv = ptr x ∧ WalAt w p g l ∧ ¬ F p ∧ B0 ≤ p ∧ RefWal w x h B0 l recs u ∧ B0 ≤ x ∧ ∀ k, F k → k ≠ x ∧ some k ≠ u.ownBlock
def Twos (w : World) (B0 b g r h : Nat) (F : Nat → Prop) (d : DiskM) (st : StM) : Prop := ∃ pv xv, HalfW w B0 b g r h F d pv xv ∧ Ends w B0 b g r h F st pv xv
def DoesP (B0 b g r h : Nat) (w : World) (d : DiskM) (st : StM) (e : Ending) (w' : World) : Prop :=
  e = .returned (.bool true) ∧ ∃ F, Twos w' B0 b g r h F d st ∧ Same (fun k => k < B0) w w'
theorem map_ne {w : World} {g r k : Nat} {F : Nat → Prop} {d : DiskM} {e : TypeId} {xs : List Value} (h : DiskAt w g r F d) (hr : Row w k e xs) : k ≠ r := by
  obtain ⟨-, -, -, -, -, sw, v0, v1, k0, k1, c, h5, -⟩ := h
  rintro rfl
  unfold Row at hr
  rw [h5] at hr
  unfold mapOf at hr
  split at hr <;> cases hr
section
variable {w : World} {B0 b g r h : Nat} {F : Nat → Prop} {d : DiskM} {pv xv : Value} {st : StM}
theorem HalfW.ne (H : HalfW w B0 b g r h F d pv xv) : b ≠ g ∧ b ≠ r ∧ b ≠ h ∧ g ≠ h ∧ r ≠ h ∧ r ≠ g :=
  ⟨H.row.ne H.disk.1 (by decide), map_ne H.disk H.row, H.row.ne H.ref (by decide), H.disk.1.ne H.ref (by decide), (map_ne H.disk H.ref).symm, (map_ne H.disk H.disk.1).symm⟩
theorem HalfW.keep {w' : World} {S : Nat → Prop} (H : HalfW w B0 b g r h F d pv xv) (hs : Same S w w') (h1 : S b ∧ S g ∧ S r ∧ S h) (hF : ∀ k, F k → S k) : HalfW w' B0 b g r h F d pv xv :=
  ⟨H.row.keep hs h1.1, H.disk.keep hs h1.2.1 h1.2.2.1 hF, H.ref.keep hs h1.2.2.2, H.apart, H.lo⟩
theorem HalfW.keepAll {w' : World} (H : HalfW w B0 b g r h F d pv xv) (hs : Same (fun _ => True) w w') : HalfW w' B0 b g r h F d pv xv := H.keep hs ⟨trivial, trivial, trivial, trivial⟩ fun _ _ => trivial
theorem Ends.keepAll {w' : World} (H : Ends w B0 b g r h F st pv xv) (hs : Same (fun _ => True) w w') : Ends w' B0 b g r h F st pv xv := by
  cases st with
  | none => exact H
  | some z =>
    obtain ⟨p, x, u, h1, h2, h3, h4, h5, h6, h7, h8⟩ := H
    exact ⟨p, x, u, h1, h2, h3.keepAll hs, h4, h5, h6.keepAll hs, h7, h8⟩
theorem Twos.keepAll {w' : World} (H : Twos w B0 b g r h F d st) (hs : Same (fun _ => True) w w') : Twos w' B0 b g r h F d st := by
  obtain ⟨pv, xv, h1, h2⟩ := H
  exact ⟨pv, xv, h1.keepAll hs, h2.keepAll hs⟩
end
theorem HalfW.after {w w1 w2 : World} {B0 b g r h : Nat} {F F' : Nat → Prop} {d d' : DiskM} {pv xv : Value} (H : HalfW w B0 b g r h F d pv xv) (hF : ∀ k, F' k → F k ∨ w.heap.size ≤ k) (hd : DiskAt w1 g r F' d') (hs1 : Same (fun k => k ≠ g ∧ k ≠ r) w w1) (hr : RefAt w2 h d') (hs2 : Same (fun k => k ≠ h) w1 w2) (pw px : Value) :
    HalfW ((w2.setCell ⟨b, 2, none⟩ pw).setCell ⟨b, 3, none⟩ px) B0 b g r h F' d' pw px ∧ Same (fun k => k ≠ b) w2 ((w2.setCell ⟨b, 2, none⟩ pw).setCell ⟨b, 3, none⟩ px) ∧ Same (fun k => k < B0) w ((w2.setCell ⟨b, 2, none⟩ pw).setCell ⟨b, 3, none⟩ px) := by
  have hS : Same (fun k => k ≠ b) w2 ((w2.setCell ⟨b, 2, none⟩ pw).setCell ⟨b, 3, none⟩ px) := ((Same.refl _ _).setCell (fun _ h => h rfl) _).setCell (fun _ h => h rfl) _
  have hn := H.ne
  have hb := H.row.lt
  have hh := H.ref.lt
  have hlo := H.lo
  have hF2 : ∀ k, F' k → B0 ≤ k ∧ k ≠ b ∧ k ≠ h := fun k hk => by
    rcases hF k hk with h1 | h1
    · exact H.apart k h1
    · exact ⟨by omega, by omega, by omega⟩
  have hrow := (H.row.keep hs1 ⟨hn.1, hn.2.1⟩).keep hs2 hn.2.2.1
  refine ⟨⟨?_, ?_, hr.keep hS hn.2.2.1.symm, hF2, hlo⟩, hS, ?_⟩
  · exact (hrow.set_ 2 pw).set_ 3 px
  · exact (hd.keep hs2 hn.2.2.2.1 hn.2.2.2.2.1 fun k hk => (hF2 k hk).2.2).keep hS hn.1.symm hn.2.1.symm fun k hk => (hF2 k hk).2.1
  · exact ((hs1.mono fun k _ (hk : k < B0) => ⟨by omega, by omega⟩).trans (hs2.mono fun k _ (hk : k < B0) => (by omega : k ≠ h))).trans (hS.mono fun k _ (hk : k < B0) => (by omega : k ≠ b))
def Tb (g r h p x : Nat) (u0 : Value) (k : Nat) : Prop := k ≠ g ∧ k ≠ r ∧ k ≠ h ∧ k ≠ p ∧ k ≠ x ∧ some k ≠ u0.ownBlock
/-- The logs between two calls: the program's at (dc, lc), the document's at (dr, lr, recs); the blocks from lo up to hi are neither's. -/
structure Mid (lo hi B0 b g r h p x : Nat) (u0 : Value) (dc dr : DiskM) (lc lr : WalM) (recs : List (List UInt8)) (fr : Bool) (w : World) : Prop where
  lt : lo ≤ hi ∧ hi ≤ w.heap.size
  low : b < lo ∧ g < lo ∧ r < lo ∧ h < lo ∧ p < lo ∧ x < lo
  ref : RefAt w h dr
  ex : ∃ F u, DiskAt w g r F dc ∧ WalAt w p g lc ∧ ¬ F p ∧ RefWal w x h B0 lr recs u ∧ (∀ k, F k → B0 ≤ k ∧ k ≠ b ∧ k ≠ h ∧ k ≠ x ∧ some k ≠ u.ownBlock) ∧ (fr = false → u = u0) ∧ (∀ k, F k → k < lo ∨ hi ≤ k) ∧ ∀ k, u.ownBlock = some k → k < lo ∨ hi ≤ k
theorem own_row_ne {w : World} {B k : Nat} {v : Value} {ss : List (List UInt8)} {t : TypeId} {xs : List Value} (h : OwnS w B v ss) (hr : Row w k t xs) (ht : t ≠ 9) : some k ≠ v.ownBlock := by
  intro e
  rcases ownsRow_row h with ⟨q, -, -⟩ | ⟨g, cap, cur, q, -, h2, -⟩
  · rw [q] at e; cases e
  · rw [q] at e
    have e : some k = some g := e
    injection e with e
    subst e
    exact hr.ne h2 ht rfl
theorem own_map_ne {w : World} {B g r : Nat} {F : Nat → Prop} {d : DiskM} {v : Value} {ss : List (List UInt8)} (h : OwnS w B v ss) (hd : DiskAt w g r F d) : some r ≠ v.ownBlock := by
  intro e
  rcases ownsRow_row h with ⟨q, -, -⟩ | ⟨g, cap, cur, q, -, h2, -⟩
  · rw [q] at e; cases e
  · rw [q] at e
    have e : some r = some g := e
    injection e with e
    subst e
    exact map_ne hd h2 rfl
theorem own_lt {w : World} {B k : Nat} {v : Value} {ss : List (List UInt8)} (h : OwnS w B v ss) (e : v.ownBlock = some k) : k < w.heap.size := (h.lt k e).2
section
variable {w : World} {lo hi B0 b g r h p x : Nat} {u0 : Value} {dc dr d1 : DiskM} {lc lr l1 : WalM} {recs recs1 : List (List UInt8)} {fr : Bool} {f : Nat} {args : Array Value} {y : Int}
theorem Mid.keep {w' : World} (H : Mid lo hi B0 b g r h p x u0 dc dr lc lr recs fr w) (hs : Same (fun k => k < lo ∨ hi ≤ k) w w') : Mid lo hi B0 b g r h p x u0 dc dr lc lr recs fr w' := by
  obtain ⟨h1, hl, h2, F, u, h3, h4, h5, h6, h7, h8, h9, h10⟩ := H
  exact ⟨⟨h1.1, Nat.le_trans h1.2 hs.size⟩, hl, h2.keep hs (.inl hl.2.2.2.1), F, u, h3.keep hs (.inl hl.2.1) (.inl hl.2.2.1) h9, h4.keep hs (.inl hl.2.2.2.2.1), h5, h6.keep hs (.inl hl.2.2.2.2.2) h10, h7, h8, h9, h10⟩
theorem Mid.keepAll {w' : World} (H : Mid lo hi B0 b g r h p x u0 dc dr lc lr recs fr w) (hs : Same (fun _ => True) w w') : Mid lo hi B0 b g r h p x u0 dc dr lc lr recs fr w' := H.keep (hs.mono fun _ _ _ => trivial)
/-- The program's call. -/
theorem Mid.code (H : Mid lo hi B0 b g r h p x u0 dc dr lc lr recs fr w) (hB : B0 ≤ b) (hc : ∀ F, LogAt w p g r F dc lc → Calls Try.prog f args w (WPost p g r F w y d1 l1)) :
    Calls Try.prog f args w fun e w' => e = .returned (.int .i64 y) ∧ Mid lo hi B0 b g r h p x u0 d1 dr l1 lr recs fr w' ∧ Same (Tb g r h p x u0) w w' := by
  obtain ⟨hbl, hlow, hdr, F, u, hd, hw, hF, hx, hap, hu, hFl, hul⟩ := H
  have hpg : p ≠ g := Row.ne hw hd.1 (by decide)
  have hpr : p ≠ r := map_ne hd hw
  refine (hc F ⟨hd, hw, hF, hpg, hpr⟩).mono ?_
  rintro e w' ⟨rfl, ⟨F', hF', hl⟩, hs⟩
  refine ⟨rfl, ⟨⟨hbl.1, Nat.le_trans hbl.2 hs.size⟩, hlow, hdr.keep hs ⟨(hd.1.ne hdr (by decide)).symm, map_ne hd hdr, hdr.ne hw (by decide)⟩, F', u, hl.disk, hl.wal, hl.pF, ?_, ?_, hu, fun k hk => (hF' k hk).elim (hFl k) (fun h1 => .inr (by omega)), hul⟩, hs.mono fun k _ hk => ⟨hk.1, hk.2.1, hk.2.2.2.1⟩⟩
  · refine hx.keep hs ⟨hx.row.ne hd.1 (by decide), map_ne hd hx.row, hx.row.ne hw (by decide)⟩ fun k hk => ⟨?_, ?_, ?_⟩
    · rintro rfl; exact own_row_ne hx.own hd.1 (by decide) hk.symm
    · rintro rfl; exact own_map_ne hx.own hd hk.symm
    · rintro rfl; exact own_row_ne hx.own hw (by decide) hk.symm
  · intro k hk
    rcases hF' k hk with h1 | h1
    · exact hap k h1
    · exact ⟨by omega, by omega, by omega, by omega, fun e => by have := own_lt hx.own e.symm; omega⟩
/-- The document's call. -/
theorem Mid.doc (H : Mid lo hi B0 b g r h p x u0 dc dr lc lr recs false w) (hc : RefWal w x h B0 lr recs u0 → RefAt w h dr → Calls Try.prog f args w (XPost x h B0 u0 w y d1 l1 recs1)) :
    Calls Try.prog f args w fun e w' => e = .returned (.int .i64 y) ∧ Mid lo hi B0 b g r h p x u0 dc d1 lc l1 recs1 true w' ∧ Same (Tb g r h p x u0) w w' := by
  obtain ⟨hbl, hlow, hdr, F, u, hd, hw, hF, hx, hap, hu, hFl, hul⟩ := H
  obtain rfl := hu rfl
  refine (hc hx hdr).mono ?_
  rintro e w' ⟨rfl, ⟨v', hx', hno⟩, hd', hs⟩
  refine ⟨rfl, ⟨⟨hbl.1, Nat.le_trans hbl.2 hs.size⟩, hlow, hd', F, v', hd.keep hs ⟨hd.1.ne hx.row (by decide), hd.1.ne hdr (by decide), own_row_ne hx.own hd.1 (by decide)⟩ ⟨(map_ne hd hx.row).symm, (map_ne hd hdr).symm, own_map_ne hx.own hd⟩ (fun k hk => ⟨(hap k hk).2.2.2.1, (hap k hk).2.2.1, (hap k hk).2.2.2.2⟩),
    hw.keep hs ⟨Row.ne hw hx.row (by decide), Row.ne hw hdr (by decide), own_row_ne hx.own hw (by decide)⟩, hF, hx', ?_, (fun e => by cases e), hFl, fun k hk => (hno k hk).elim (hul k) (fun h1 => .inr (by omega))⟩, hs.mono fun k _ hk => ⟨hk.2.2.2.2.1, hk.2.2.1, hk.2.2.2.2.2⟩⟩
  intro k hk
  have h1 := hap k hk
  refine ⟨h1.1, h1.2.1, h1.2.2.1, h1.2.2.2.1, fun e => ?_⟩
  rcases hno k e.symm with h2 | h2
  · exact h1.2.2.2.2 h2.symm
  · have := (hd.2.2.2.2.1 k hk).1; omega
end
section
variable {w : World} {B0 b g r h : Nat} {F : Nat → Prop} {d : DiskM} {l : WalM} {recs : List (List UInt8)} {pv xv : Value}
theorem Twos.mid (H : Twos w B0 b g r h F d (some (l, recs))) : ∃ p x A c, Row w b 62 [ptr g, ptr h, ptr p, ptr x] ∧ (∀ W, Same (fun _ => True) w W → Mid w.heap.size W.heap.size B0 b g r h p x (.slice A recs.length c) d d l l recs false W) ∧ (B0 ≤ b ∧ B0 ≤ g ∧ B0 ≤ r ∧ B0 ≤ h ∧ B0 ≤ p ∧ B0 ≤ x) ∧ Tb g r h p x (.slice A recs.length c) b ∧
    (∀ k, w.heap.size ≤ k → Tb g r h p x (.slice A recs.length c) k) ∧ ∀ k, k < B0 → Tb g r h p x (.slice A recs.length c) k := by
  obtain ⟨pv, xv, h1, p, x, u, rfl, rfl, hw, hF, hp, hx, hx0, hap⟩ := H
  obtain ⟨A, c, rfl, -, -⟩ := hx.own.form
  have hn := h1.ne
  have hlo := h1.lo
  have l0 := h1.row.lt
  have l1 := h1.disk.2.1
  have l2 := h1.disk.2.2.1
  have l3 := h1.ref.lt
  have l4 : p < w.heap.size := Row.lt hw
  have l5 := hx.row.lt
  refine ⟨p, x, A, c, h1.row, fun W hs => ⟨⟨hs.size, Nat.le_refl _⟩, ⟨l0, l1, l2, l3, l4, l5⟩, h1.ref.keep hs trivial, F, _, h1.disk.keepAll hs, hw.keepAll hs, hF, hx.keepAll hs, fun k hk => ⟨(h1.apart k hk).1, (h1.apart k hk).2.1, (h1.apart k hk).2.2, hap k hk⟩, fun _ => rfl, fun k hk => .inl (h1.disk.2.2.2.2.1 k hk).1, fun k hk => .inl (own_lt hx.own hk)⟩,
    ⟨hlo.1, hlo.2.1, hlo.2.2.1, hlo.2.2.2, hp, hx0⟩, ⟨hn.1, hn.2.1, hn.2.2.1, h1.row.ne hw (by decide), h1.row.ne hx.row (by decide), own_row_ne hx.own h1.row (by decide)⟩, fun k hk => ⟨by omega, by omega, by omega, by omega, by omega, fun e => by have := own_lt hx.own e.symm; omega⟩,
    fun k hk => ⟨by omega, by omega, by omega, by omega, by omega, fun e => by have := own_ge hx.own e; omega⟩⟩
theorem Mid.twos {lo hi p x : Nat} {u0 : Value} {fr : Bool} (H : Mid lo hi B0 b g r h p x u0 d d l l recs fr w) (hr : Row w b 62 [ptr g, ptr h, ptr p, ptr x]) (hlo : B0 ≤ b ∧ B0 ≤ g ∧ B0 ≤ r ∧ B0 ≤ h ∧ B0 ≤ p ∧ B0 ≤ x) : ∃ F, Twos w B0 b g r h F d (some (l, recs)) := by
  obtain ⟨h1, hlow, h2, F, u, h3, h4, h5, h6, h7, h8, -, -⟩ := H
  exact ⟨F, ptr p, ptr x, ⟨hr, h3, h2, fun k hk => ⟨(h7 k hk).1, (h7 k hk).2.1, (h7 k hk).2.2.1⟩, ⟨hlo.1, hlo.2.1, hlo.2.2.1, hlo.2.2.2.1⟩⟩, p, x, u, rfl, rfl, h4, h5, hlo.2.2.2.2.1, h6, hlo.2.2.2.2.2, fun k hk => (h7 k hk).2.2.2⟩
end
def DoneP (B0 b g r h k : Nat) (w : World) (e : Ending) (w' : World) : Prop := e = .returned (.bool true) ∧ ∃ d st F, Twos w' B0 b g r h F d st ∧ PInv (k + 1) d st ∧ Same (fun k => k < B0) w w'
end Go.Proofs.Ytpjinngngbifoaa
namespace Go.Proofs.Ytpjinngngbifoaa
open Go.RowKit
set_option maxRecDepth 100000 in
set_option maxHeartbeats 4000000 in
theorem both_open (B0 b g r h : Nat) (F : Nat → Prop) (d : DiskM) (pv xv : Value) (m0 m1 : Option LookM) (w : World) (H : HalfW w B0 b g r h F d pv xv) (hd : d.Fit) (hds : d.steps + 3 < 1000000) (h0 : LookF d.f0.b m0) (h1 : LookF d.f1.b m1) (hb0 : d.f0.b.length ≤ 19000) (hb1 : d.f1.b.length ≤ 19000)
    (hrl : ∀ l recs, (openW d m0 m1).2.2 = some (l, recs) → recs.length ≤ 100000) :
    Calls Try.prog 29 #[ptr b] w (DoesP B0 b g r h w (openW d m0 m1).2.1 (openW d m0 m1).2.2) := by
  have hop := wopen_any g r F d m0 m1 w H.disk hd hds h0 h1 hb0 hb1
  have hrp := fun W (hW : RefAt W h d) => ropen_any h d m0 m1 W hW hd hds h0 h1 hb0 hb1
  obtain ⟨⟨y, d', o⟩, hR⟩ : ∃ R, R = openW d m0 m1 := ⟨_, rfl⟩
  rw [← hR] at hop hrp hrl ⊢
  dsimp only at hop hrp hrl ⊢
  have hne := H.ne
  have hb := H.row.lt
  have hh := H.ref.lt
  have b0 := H.row.cell 0
  have b1 := H.row.cell 1
  simp at b0 b1
  have HH := Lib.hid H
  have HN := Lib.hid hne
  have HRP := Lib.hid hrp
  have HRL := Lib.hid hrl
  clear hR H h0 h1 hb0 hb1 hd hds hrp hrl
  go_enter Try.func29, Try.ntmps29
  go_wp2_with (go_at_call 15; refine stopAt ?_)
  unfold Hid
  refine hop.mono ?_
  rintro e w1 ⟨pw, A1, n1, c1, rfl, ⟨F', hF', hm⟩, hs1⟩
  have hd1 : RefAt w1 h d := HH.out.ref.keep hs1 ⟨HN.out.2.2.2.1.symm, HN.out.2.2.2.2.1.symm⟩
  have hr1 := HRP.out w1 hd1
  have hrow1 := HH.out.row.keep hs1 ⟨hne.1, hne.2.1⟩
  have hb1 := hrow1.lt
  have c0 := hrow1.cell 0
  have c1' := hrow1.cell 1
  have HM := Lib.hid hm
  have HS1 := Lib.hid hs1
  have HF' := Lib.hid hF'
  have HROW := Lib.hid hrow1
  simp at c0 c1'
  clear hop hd1 hm hs1 hF' hrow1 hne b0 b1 HRP
  go_wp2_with (go_at_call 48; refine stopAt ?_)
  unfold Hid
  refine hr1.mono ?_
  rintro e w2 ⟨px, rfl, hd2, hs2, hm2⟩
  have hrow2 := HROW.out.keep hs2 HN.out.2.2.1
  have hlt2 := hrow2.lt
  have e0 := hrow2.cell 0
  have e1 := hrow2.cell 1
  have e2 := hrow2.cell 2
  have e3 := hrow2.cell 3
  have z2 := hrow2.frozen 2
  have z3 := hrow2.frozen 3
  simp at e0 e1 e2 e3
  have HD2 := Lib.hid hd2
  have HS2 := Lib.hid hs2
  have HM2 := Lib.hid hm2
  have HROW2 := Lib.hid hrow2
  clear hr1 hd2 hs2 hm2 hrow2 c0 c1' hb1
  cases o with
  | none =>
    obtain ⟨rfl, rfl, hdk⟩ := HM.out
    obtain rfl := HM2.out
    have HDK := Lib.hid hdk
    clear hdk HM HM2
    go_wp2
    go_ret
    obtain ⟨k1, k2, k3⟩ := HH.out.after HF'.out HDK.out HS1.out HD2.out HS2.out (.pointer none) (.pointer none)
    exact ⟨rfl, F', ⟨_, _, k1, rfl, rfl⟩, k3⟩
  | some z =>
    obtain ⟨l, recs⟩ := z
    obtain ⟨rfl, rfl, hby, hlg⟩ := HM.out
    obtain ⟨rfl, u, hrw⟩ := HM2.out
    have hsz := HS1.out.size
    obtain ⟨k1, k2, k3⟩ := HH.out.after HF'.out hlg.disk HS1.out HD2.out HS2.out (ptr w.heap.size) (ptr w1.heap.size)
    have hal : Same (fun k => k ≠ b ∧ k ≠ h) w1 _ := (HS2.out.mono fun k _ (hk : k ≠ b ∧ k ≠ h) => hk.2).trans (k2.mono fun k _ (hk : k ≠ b ∧ k ≠ h) => hk.1)
    have hby3 := hby.keep (hal.mono fun k _ (hk : w.heap.size + 1 < k) => ⟨by omega, by omega⟩)
    have hrw3 : RefWal _ w1.heap.size h B0 l recs u := (RefWal.mk hrw.row (own_lower hrw.own (by have := HH.out.lo; omega)) hrw.xh).keep k2 (by omega) fun k hk => by have := own_ge hrw.own hk.symm; omega
    have hwl := (hlg.wal.keep hal ⟨by omega, by omega⟩)
    have hrd3 := hrw3.own.rd
    have hae := alike_any _ _ _ _ _ _ _ hby3 hrd3 (HRL.out l recs rfl) (HRL.out l recs rfl)
    obtain ⟨Au, cu, rfl, hcu, hmu⟩ := hrw3.own.form
    have x3 := hrw3.row.cell 3
    have hxl := hrw3.row.lt
    simp at x3 hae
    have HK1 := Lib.hid k1
    have HK3 := Lib.hid k3
    have HRW := Lib.hid hrw3
    have HWL := Lib.hid hwl
    have HPF := Lib.hid hlg.pF
    have HFX : Hid (∀ k, F' k → k ≠ w1.heap.size ∧ some k ≠ (Value.slice Au recs.length cu).ownBlock) := Lib.hid fun k hk => by
      have h1 := (hlg.disk.2.2.2.2.1 k hk).1
      exact ⟨by omega, fun e => by have := own_ge hrw.own e; omega⟩
    clear k1 k2 k3 hal hby3 hrw3 hwl hrd3 hby hlg hrw HM HM2 HD2
    go_wp2_with (go_at_call 16; refine hae.mono ?_; rintro e w4 ⟨rfl, hs4⟩)
    go_ret
    refine ⟨rfl, F', ⟨_, _, HK1.out.keepAll hs4, w.heap.size, w1.heap.size, _, rfl, rfl, HWL.out.keepAll hs4, HPF.out, by have := HH.out.lo; have := HH.out.row.lt; omega, HRW.out.keepAll hs4, by have := HH.out.lo; omega, HFX.out⟩, HK3.out.trans (hs4.mono fun _ _ _ => trivial)⟩
end Go.Proofs.Ytpjinngngbifoaa
