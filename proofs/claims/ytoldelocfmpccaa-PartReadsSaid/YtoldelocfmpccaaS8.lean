/-
  Words, plain models, laws and walks that the claims of this layer share (joined by shake.py). No condition.
-/
import Derived.Deep.CutRange
import Derived.Test.YtoldelocfmpccaaS1
import Derived.Test.YtoldelocfmpccaaS2
import Derived.Test.YtoldelocfmpccaaS3
import Derived.Test.YtoldelocfmpccaaS4
import Derived.Test.YtoldelocfmpccaaS5
import Derived.Test.YtoldelocfmpccaaS6
import Derived.Test.YtoldelocfmpccaaS7
set_option linter.unusedSimpArgs false
set_option linter.unusedVariables false
namespace Go.Proofs.Ytoldelocfmpccaa
open Go.RowKit
abbrev SpanR (w : World) (S : Nat → Prop) (v : Value) (l : List (List UInt8 × List UInt8)) : Prop := RowR pairCs 2 w S v l
theorem SpanR.form {w : World} {S : Nat → Prop} {v : Value} {l : List (List UInt8 × List UInt8)} (h : SpanR w S v l) : ∃ A c, v = .slice A l.length c ∧ l.length ≤ c ∧ c ≤ maxLen := by
  obtain ⟨A, c, h1, h2, h3, _⟩ := h
  exact ⟨A, c, h1, h2, h3⟩
theorem SpanR.cells {w : World} {S : Nat → Prop} {A : Option Addr} {n c : Nat} {l : List (List UInt8 × List UInt8)} (h : SpanR w S (.slice A n c) l) {i : Nat} (hi : i < l.length) : ∃ ad, A = some ad ∧ S ad.block ∧
    w.cell? (ad.add (i * 2)) = some (.string (str l[i].1)) ∧ w.cell? ⟨(ad.add (i * 2)).block, (ad.add (i * 2)).off + 1, none⟩ = some (.string (str l[i].2)) := by
  obtain ⟨ad, c, h1, h2, h3, h4, h5⟩ := RowR.at_ h (fun _ => rfl) hi
  injection h1 with h1 _ _
  exact ⟨ad, h1, h4, by have := h5 0 (by omega); rwa [add_zero] at this, h5 1 (by omega)⟩
/-- The first lock that is in the way. -/
def blockedF (cs : List Cel) (a : St) : List (List UInt8 × List UInt8) → Option Lck
  | [] => none
  | s :: l => if (blocksF cs s.1 s.2 a).2 then some (blocksF cs s.1 s.2 a).1 else blockedF cs a l
/-- What all spans tell. -/
def scanAll (cs : List Cel) (a : St) : List (List UInt8 × List UInt8) → List (List UInt8 × List UInt8) → List (List UInt8 × List UInt8) × Int
  | [], acc => (acc, 0)
  | s :: l, acc => if (scanF cs s.1 s.2 a (512 - (acc.length : Int))).2 = 0 then scanAll cs a l (acc ++ (scanF cs s.1 s.2 a (512 - (acc.length : Int))).1) else ([], (scanF cs s.1 s.2 a (512 - (acc.length : Int))).2)
def readF (p : PartM) (c : CmdM) : PartM × ReplyM :=
  if c.at_.wall < p.low then (p, { ReplyM.zero with err := 24, wall := p.low })
  else match blockedF p.cells c.at_ c.spans with
    | some l => (p, lockedR l)
    | none => if (scanAll p.cells c.at_ c.spans []).2 = 0 then ({ p with floor := maxS p.floor c.at_ }, { ReplyM.zero with pairs := (scanAll p.cells c.at_ c.spans []).1 }) else (p, repErr (scanAll p.cells c.at_ c.spans []).2)
theorem blocked_step {cs : List Cel} {a : St} {l : List (List UInt8 × List UInt8)} {k : Nat} (h : k < l.length) : blockedF cs a (l.drop k) = if (blocksF cs l[k].1 l[k].2 a).2 then some (blocksF cs l[k].1 l[k].2 a).1 else blockedF cs a (l.drop (k + 1)) := by
  rw [List.drop_eq_getElem_cons h]; rfl
theorem scanAll_step {cs : List Cel} {a : St} {l acc : List (List UInt8 × List UInt8)} {k : Nat} (h : k < l.length) : scanAll cs a (l.drop k) acc = if (scanF cs l[k].1 l[k].2 a (512 - (acc.length : Int))).2 = 0 then scanAll cs a (l.drop (k + 1)) (acc ++ (scanF cs l[k].1 l[k].2 a (512 - (acc.length : Int))).1) else ([], (scanF cs l[k].1 l[k].2 a (512 - (acc.length : Int))).2) := by
  rw [List.drop_eq_getElem_cons h]; rfl
theorem scan_fits {cs : List Cel} {lo hi : List UInt8} {a : St} {m : Int} (h : (scanF cs lo hi a m).2 = 0) : ((scanF cs lo hi a m).1.length : Int) ≤ max m 0 := by
  unfold scanF at h ⊢
  split at h
  · cases h
  · rename_i h2
    rw [if_neg h2]
    show ((pairsF a (withinF cs lo hi)).length : Int) ≤ _
    omega
theorem OwnR.neRow {α : Type} {f : α → List Value} {n B g : Nat} {e e' : TypeId} {w : World} {v : Value} {l : List α} {xs : List Value} (h : OwnR f n e w B v l) (hr : Row w g e' xs) (hne : e ≠ e') : some g ≠ v.ownBlock := fun hk => by
  rcases ownsRow_row h with ⟨rfl, _, _⟩ | ⟨g', cap, cur, rfl, _, hr', _⟩
  · cases hk
  · injection (show some g = some g' from hk) with hk
    subst hk
    exact hr'.ne hr hne rfl
theorem read_results {W : World} {k : Nat} {vp : Value} {r : ReplyM} (R : Row W k 85 (repCs vp r)) {tmps : Array Value} (h2 : tmps.getD 4 undef = .pointer (some ⟨k, 0, none⟩)) :
    (results Try.f104 tmps).run Try.prog W = .ok (repV vp r) W := by
  have d0 := R.cell 0
  have d1 := R.cell 1
  have d2 := R.cell 2
  have d3 := R.cell 3
  have d4 := R.cell 4
  have d5 := R.cell 5
  have d6 := R.cell 6
  have d7 := R.cell 7
  have d8 := R.cell 8
  have d9 := R.cell 9
  have d10 := R.cell 10
  simp only [repCs, List.getElem?_cons_zero, List.getElem?_cons_succ] at d0 d1 d2 d3 d4 d5 d6 d7 d8 d9 d10
  simp at h2
  simp [results, Try.results104, h2, go_sem, d0, d1, d2, d3, d4, d5, d6, d7, d8, d9, d10]
set_option maxRecDepth 100000 in
set_option maxHeartbeats 8000000 in
theorem read_any (g B : Nat) (S : Nat → Prop) (vc vr vd vs vw : Value) (p : PartM) (c : CmdM) (w : World) (hr : Row w g 77 (partCs vc vr vd p)) (ho : OwnPart w B vc vr vd p) (hB : B ≤ g) (hBw : B ≤ w.heap.size) (hn : PartN p) (hso : Sorted p.cells) (hsp : SpanR w S vs c.spans) (hS : ∀ k, S k → k < B) :
    Calls Try.prog 104 #[.pointer (some ⟨g, 0, none⟩), cmdV vs vw c] w (DoesP B g vr vd (readF p c) w) := by
  have r0 := (Row.new w 81 (cmdCs vs vw c)).keep ((Same.refl (fun _ => True) _).alloc (.cells (repCs nilV ReplyM.zero).toArray 85)) trivial
  have r1 := Row.new (w.alloc (.cells (cmdCs vs vw c).toArray 81)) 85 (repCs nilV ReplyM.zero)
  have hS0 := ((Same.refl (fun _ => True) w).alloc (.cells (cmdCs vs vw c).toArray 81)).alloc (.cells (repCs nilV ReplyM.zero).toArray 85)
  rw [World.size_alloc] at r1
  obtain ⟨hn1, hn2, hn3, hn4⟩ := hn
  have Hn2 := Lib.hid hn2
  have Hso := Lib.hid hso
  have Ho := Lib.hid ho
  have Hr := Lib.hid hr
  have Hsp := Lib.hid hsp
  have HSB := Lib.hid hS
  obtain ⟨As, cs, rfl, hs1, hs2⟩ := SpanR.form hsp
  obtain ⟨Ac, cc, rfl, hc1, hc2⟩ := ho.cells.form
  unfold maxLen at hs2 hc2
  have hgl := hr.lt
  clear ho hr hn2 hso hsp hS
  have hp := Hr.out.keep hS0 trivial
  have z1 := r1.lt
  go_enter Try.func104, Try.ntmps104
  go_wp2
  simp only [partCs, cmdCs, repCs, ReplyM.zero] at r0 r1 hp hS0
  revert r0 r1 hS0 hp z1
  generalize (w.alloc _).alloc _ = w1
  intro r0 r1 hS0 hp z1
  have R0 := Lib.hid r0
  have R1 := Lib.hid r1
  have HP := Lib.hid hp
  have HS0 := Lib.hid hS0
  clear r0 r1 hp hS0 z1
  have hp := HP.out.keep (Same.refl (fun _ => True) w1) trivial
  have r0 := R0.out.keep (Same.refl (fun _ => True) w1) trivial
  have r1 := R1.out.keep (Same.refl (fun _ => True) w1) trivial
  have p0 := hp.cell 0
  have p1 := hp.cell 1
  have p2 := hp.cell 2
  have p3 := hp.cell 3
  have p4 := hp.cell 4
  have p5 := hp.cell 5
  have p6 := hp.cell 6
  have p7 := hp.cell 7
  have p8 := hp.cell 8
  simp only [List.getElem?_cons_zero, List.getElem?_cons_succ] at p0 p1 p2 p3 p4 p5 p6 p7 p8
  have c0 := r0.cell 0
  have c1 := r0.cell 1
  have c2 := r0.cell 2
  have c3 := r0.cell 3
  have c4 := r0.cell 4
  have c5 := r0.cell 5
  have c6 := r0.cell 6
  have c7 := r0.cell 7
  have c8 := r0.cell 8
  have c9 := r0.cell 9
  have c10 := r0.cell 10
  have c11 := r0.cell 11
  have c12 := r0.cell 12
  have c13 := r0.cell 13
  simp only [List.getElem?_cons_zero, List.getElem?_cons_succ] at c0 c1 c2 c3 c4 c5 c6 c7 c8 c9 c10 c11 c12 c13
  have e0 := r1.cell 0
  have e1 := r1.cell 1
  have e2 := r1.cell 2
  have e3 := r1.cell 3
  have e4 := r1.cell 4
  have e5 := r1.cell 5
  have e6 := r1.cell 6
  have e7 := r1.cell 7
  have e8 := r1.cell 8
  have e9 := r1.cell 9
  have e10 := r1.cell 10
  simp only [List.getElem?_cons_zero, List.getElem?_cons_succ] at e0 e1 e2 e3 e4 e5 e6 e7 e8 e9 e10
  have f0 := r1.frozen 0
  have f1 := r1.frozen 1
  have f2 := r1.frozen 2
  have f3 := r1.frozen 3
  have f4 := r1.frozen 4
  have f5 := r1.frozen 5
  have f6 := r1.frozen 6
  have f7 := r1.frozen 7
  have f8 := r1.frozen 8
  have f9 := r1.frozen 9
  have f10 := r1.frozen 10
  have zp := hp.lt
  have z1 := r1.lt
  clear hp r0 r1
  by_cases h1 : c.at_.wall < p.low
  · have d1 : decide (c.at_.wall < p.low) = true := by simpa using h1
    have HL := Lib.hid (show readF p c = (p, { ReplyM.zero with err := 24, wall := p.low }) by unfold readF; rw [if_pos h1])
    go_quiet (fail)
    rename_i nq
    have HS := Lib.hid (HS0.out.drewN nq)
    have hsq := (Same.refl (fun _ => True) w1).drewN nq
    have R1 := Lib.hid (R1.out.keep hsq trivial)
    have HP := Lib.hid (HP.out.keep hsq trivial)
    have R0 := Lib.hid (R0.out.keep hsq trivial)
    clear hsq h1
    clear p0 p1 p2 p3 p4 p5 p6 p7 p8 c0 c1 c2 c3 c4 c5 c6 c7 c8 c9 c10 c11 c12 c13 e0 f0 e1 f1 e2 f2 e3 f3 e4 f4 e5 f5 e6 f6 e7 f7 e8 f8 e9 f9 e10 f10 zp z1
    generalize w1.drewN nq = w2 at *
    have hp := HP.out.keep (Same.refl (fun _ => True) w2) trivial
    have r0 := R0.out.keep (Same.refl (fun _ => True) w2) trivial
    have r1 := R1.out.keep (Same.refl (fun _ => True) w2) trivial
    have p0 := hp.cell 0
    have p1 := hp.cell 1
    have p2 := hp.cell 2
    have p3 := hp.cell 3
    have p4 := hp.cell 4
    have p5 := hp.cell 5
    have p6 := hp.cell 6
    have p7 := hp.cell 7
    have p8 := hp.cell 8
    simp only [List.getElem?_cons_zero, List.getElem?_cons_succ] at p0 p1 p2 p3 p4 p5 p6 p7 p8
    have c0 := r0.cell 0
    have c1 := r0.cell 1
    have c2 := r0.cell 2
    have c3 := r0.cell 3
    have c4 := r0.cell 4
    have c5 := r0.cell 5
    have c6 := r0.cell 6
    have c7 := r0.cell 7
    have c8 := r0.cell 8
    have c9 := r0.cell 9
    have c10 := r0.cell 10
    have c11 := r0.cell 11
    have c12 := r0.cell 12
    have c13 := r0.cell 13
    simp only [List.getElem?_cons_zero, List.getElem?_cons_succ] at c0 c1 c2 c3 c4 c5 c6 c7 c8 c9 c10 c11 c12 c13
    have e0 := r1.cell 0
    have e1 := r1.cell 1
    have e2 := r1.cell 2
    have e3 := r1.cell 3
    have e4 := r1.cell 4
    have e5 := r1.cell 5
    have e6 := r1.cell 6
    have e7 := r1.cell 7
    have e8 := r1.cell 8
    have e9 := r1.cell 9
    have e10 := r1.cell 10
    simp only [List.getElem?_cons_zero, List.getElem?_cons_succ] at e0 e1 e2 e3 e4 e5 e6 e7 e8 e9 e10
    have f0 := r1.frozen 0
    have f1 := r1.frozen 1
    have f2 := r1.frozen 2
    have f3 := r1.frozen 3
    have f4 := r1.frozen 4
    have f5 := r1.frozen 5
    have f6 := r1.frozen 6
    have f7 := r1.frozen 7
    have f8 := r1.frozen 8
    have f9 := r1.frozen 9
    have f10 := r1.frozen 10
    have zp := hp.lt
    have z1 := r1.lt
    clear hp r0 r1
    go_wp2
    have hS2 := Same.sets' (S := fun _ => True) (w := w) (g := w.heap.size + 1) (by omega) (repCs nilV { ReplyM.zero with err := 24, wall := p.low }) 0 HS.out
    have hq := Same.sets (S := fun q => q ≠ w.heap.size + 1) (g := w.heap.size + 1) (fun h => h rfl) (repCs nilV { ReplyM.zero with err := 24, wall := p.low }) 0 (Same.refl _ w2)
    rw [HL.out]
    exact bodyPost_ret (read_results (r := { ReplyM.zero with err := 24, wall := p.low }) (vp := nilV) (show Row _ _ _ (repCs nilV { ReplyM.zero with err := 24, wall := p.low }) from R1.out.sets (repCs nilV { ReplyM.zero with err := 24, wall := p.low }) 0) rfl) rfl ⟨_, _, _, nilV, rfl, HP.out.keep hq (by omega), Ho.out.keepAll hS2, OwnR.nil _ _, hS2.mono fun _ _ _ => trivial⟩
  · have d1 : decide (c.at_.wall < p.low) = false := by simpa using h1
    have HL1 := Lib.hid h1
    clear h1
    go_quiet (fail)
    rename_i nq
    have HS := Lib.hid (HS0.out.drewN nq)
    have hsq := (Same.refl (fun _ => True) w1).drewN nq
    have R1 := Lib.hid (R1.out.keep hsq trivial)
    have HP := Lib.hid (HP.out.keep hsq trivial)
    have R0 := Lib.hid (R0.out.keep hsq trivial)
    clear hsq d1
    clear p0 p1 p2 p3 p4 p5 p6 p7 p8 c0 c1 c2 c3 c4 c5 c6 c7 c8 c9 c10 c11 c12 c13 e0 f0 e1 f1 e2 f2 e3 f3 e4 f4 e5 f5 e6 f6 e7 f7 e8 f8 e9 f9 e10 f10 zp z1
    generalize w1.drewN nq = w2 at *
    have hp := HP.out.keep (Same.refl (fun _ => True) w2) trivial
    have r0 := R0.out.keep (Same.refl (fun _ => True) w2) trivial
    have r1 := R1.out.keep (Same.refl (fun _ => True) w2) trivial
    have p0 := hp.cell 0
    have p1 := hp.cell 1
    have p2 := hp.cell 2
    have p3 := hp.cell 3
    have p4 := hp.cell 4
    have p5 := hp.cell 5
    have p6 := hp.cell 6
    have p7 := hp.cell 7
    have p8 := hp.cell 8
    simp only [List.getElem?_cons_zero, List.getElem?_cons_succ] at p0 p1 p2 p3 p4 p5 p6 p7 p8
    have c0 := r0.cell 0
    have c1 := r0.cell 1
    have c2 := r0.cell 2
    have c3 := r0.cell 3
    have c4 := r0.cell 4
    have c5 := r0.cell 5
    have c6 := r0.cell 6
    have c7 := r0.cell 7
    have c8 := r0.cell 8
    have c9 := r0.cell 9
    have c10 := r0.cell 10
    have c11 := r0.cell 11
    have c12 := r0.cell 12
    have c13 := r0.cell 13
    simp only [List.getElem?_cons_zero, List.getElem?_cons_succ] at c0 c1 c2 c3 c4 c5 c6 c7 c8 c9 c10 c11 c12 c13
    have e0 := r1.cell 0
    have e1 := r1.cell 1
    have e2 := r1.cell 2
    have e3 := r1.cell 3
    have e4 := r1.cell 4
    have e5 := r1.cell 5
    have e6 := r1.cell 6
    have e7 := r1.cell 7
    have e8 := r1.cell 8
    have e9 := r1.cell 9
    have e10 := r1.cell 10
    simp only [List.getElem?_cons_zero, List.getElem?_cons_succ] at e0 e1 e2 e3 e4 e5 e6 e7 e8 e9 e10
    have f0 := r1.frozen 0
    have f1 := r1.frozen 1
    have f2 := r1.frozen 2
    have f3 := r1.frozen 3
    have f4 := r1.frozen 4
    have f5 := r1.frozen 5
    have f6 := r1.frozen 6
    have f7 := r1.frozen 7
    have f8 := r1.frozen 8
    have f9 := r1.frozen 9
    have f10 := r1.frozen 10
    have zp := hp.lt
    have z1 := r1.lt
    clear hp r0 r1
    go_wp2
    clear p0 p1 p2 p3 p4 p5 p6 p7 p8 c0 c1 c2 c3 c4 c5 c6 c7 c8 c9 c10 c11 c12 c13 e0 f0 e1 f1 e2 f2 e3 f3 e4 f4 e5 f5 e6 f6 e7 f7 e8 f8 e9 f9 e10 f10 zp z1
    go_loopw [6, 7, 8, 30] (fun _ _ _ i wr => ∃ k : Nat, i = .int .i64 k ∧ k ≤ c.spans.length ∧ blockedF p.cells c.at_ (c.spans.drop k) = blockedF p.cells c.at_ c.spans ∧ Same (fun _ => True) w2 wr) (fun _ _ _ i _ => c.spans.length - (intOf i).toNat)
    case atStart => exact ⟨0, rfl, Nat.zero_le _, rfl, Same.refl _ _⟩
    case round =>
      obtain ⟨k, rfl, hk, hbl, hS3⟩ := hrel
      obtain ⟨wo, rfl⟩ : ∃ wo : World, wo = wr := ⟨_, rfl⟩
      have HS3 := Lib.hid hS3
      have HSw := Lib.hid (HS.out.trans hS3)
      have Hbl := Lib.hid hbl
      clear hS3 hbl
      have hp := HP.out.keep HS3.out trivial
      have r0 := R0.out.keep HS3.out trivial
      have r1 := R1.out.keep HS3.out trivial
      have p0 := hp.cell 0
      have p1 := hp.cell 1
      have p2 := hp.cell 2
      have p3 := hp.cell 3
      have p4 := hp.cell 4
      have p5 := hp.cell 5
      have p6 := hp.cell 6
      have p7 := hp.cell 7
      have p8 := hp.cell 8
      simp only [List.getElem?_cons_zero, List.getElem?_cons_succ] at p0 p1 p2 p3 p4 p5 p6 p7 p8
      have c0 := r0.cell 0
      have c1 := r0.cell 1
      have c2 := r0.cell 2
      have c3 := r0.cell 3
      have c4 := r0.cell 4
      have c5 := r0.cell 5
      have c6 := r0.cell 6
      have c7 := r0.cell 7
      have c8 := r0.cell 8
      have c9 := r0.cell 9
      have c10 := r0.cell 10
      have c11 := r0.cell 11
      have c12 := r0.cell 12
      have c13 := r0.cell 13
      simp only [List.getElem?_cons_zero, List.getElem?_cons_succ] at c0 c1 c2 c3 c4 c5 c6 c7 c8 c9 c10 c11 c12 c13
      have e0 := r1.cell 0
      have e1 := r1.cell 1
      have e2 := r1.cell 2
      have e3 := r1.cell 3
      have e4 := r1.cell 4
      have e5 := r1.cell 5
      have e6 := r1.cell 6
      have e7 := r1.cell 7
      have e8 := r1.cell 8
      have e9 := r1.cell 9
      have e10 := r1.cell 10
      simp only [List.getElem?_cons_zero, List.getElem?_cons_succ] at e0 e1 e2 e3 e4 e5 e6 e7 e8 e9 e10
      have f0 := r1.frozen 0
      have f1 := r1.frozen 1
      have f2 := r1.frozen 2
      have f3 := r1.frozen 3
      have f4 := r1.frozen 4
      have f5 := r1.frozen 5
      have f6 := r1.frozen 6
      have f7 := r1.frozen 7
      have f8 := r1.frozen 8
      have f9 := r1.frozen 9
      have f10 := r1.frozen 10
      have zp := hp.lt
      have z1 := r1.lt
      clear hp r0 r1
      by_cases hlt : k < c.spans.length
      · obtain ⟨ad, rfl, -, s0_, s1_⟩ := SpanR.cells (RowR.keepAll Hsp.out HSw.out) hlt
        have x1 : (0 : Int) ≤ (k : Int) := by omega
        have x2 : (k : Int) < (c.spans.length : Int) := by omega
        have hab := World.block_lt_of_cell? wo _ s0_
        have hst := blocked_step (cs := p.cells) (a := c.at_) hlt
        have gb := fun W (hW : Same (fun _ => True) wo W) => mvblocks_any (.slice Ac p.cells.length cc) p.cells c.spans[k].1 c.spans[k].2 c.at_ _ W ((Ho.out.cells.reads.keepAll HSw.out).keepAll hW) Hso.out (by omega)
        obtain ⟨⟨l, is⟩, hlk⟩ : ∃ r, r = blocksF p.cells c.spans[k].1 c.spans[k].2 c.at_ := ⟨_, rfl⟩
        rw [← hlk] at gb hst
        have Hst := Lib.hid hst
        clear hlk hst
        generalize c.spans[k] = sp at *
        obtain ⟨s1, s2⟩ := sp
        go_wp2
        have q_ := Row.new wo 53 [.string (str s1), .string (str s2)]
        have hSa := (Same.refl (fun _ => True) wo).alloc (.cells ([.string (str s1), .string (str s2)] : List Value).toArray 53)
        clear hab s0_ s1_
        clear p0 p1 p2 p3 p4 p5 p6 p7 p8 c0 c1 c2 c3 c4 c5 c6 c7 c8 c9 c10 c11 c12 c13 e0 f0 e1 f1 e2 f2 e3 f3 e4 f4 e5 f5 e6 f6 e7 f7 e8 f8 e9 f9 e10 f10 zp z1
        revert q_ hSa
        generalize wo.alloc (.cells _ 53) = wb
        intro q_ hSa
        have HSa := Lib.hid hSa
        have HSb := Lib.hid (HS3.out.trans hSa)
        have gb := fun W (hW : Same (fun _ => True) wb W) => gb W (hSa.trans hW)
        clear hSa
        have hp := HP.out.keep HSb.out trivial
        have r0 := R0.out.keep HSb.out trivial
        have r1 := R1.out.keep HSb.out trivial
        have p0 := hp.cell 0
        have p1 := hp.cell 1
        have p2 := hp.cell 2
        have p3 := hp.cell 3
        have p4 := hp.cell 4
        have p5 := hp.cell 5
        have p6 := hp.cell 6
        have p7 := hp.cell 7
        have p8 := hp.cell 8
        simp only [List.getElem?_cons_zero, List.getElem?_cons_succ] at p0 p1 p2 p3 p4 p5 p6 p7 p8
        have c0 := r0.cell 0
        have c1 := r0.cell 1
        have c2 := r0.cell 2
        have c3 := r0.cell 3
        have c4 := r0.cell 4
        have c5 := r0.cell 5
        have c6 := r0.cell 6
        have c7 := r0.cell 7
        have c8 := r0.cell 8
        have c9 := r0.cell 9
        have c10 := r0.cell 10
        have c11 := r0.cell 11
        have c12 := r0.cell 12
        have c13 := r0.cell 13
        simp only [List.getElem?_cons_zero, List.getElem?_cons_succ] at c0 c1 c2 c3 c4 c5 c6 c7 c8 c9 c10 c11 c12 c13
        have e0 := r1.cell 0
        have e1 := r1.cell 1
        have e2 := r1.cell 2
        have e3 := r1.cell 3
        have e4 := r1.cell 4
        have e5 := r1.cell 5
        have e6 := r1.cell 6
        have e7 := r1.cell 7
        have e8 := r1.cell 8
        have e9 := r1.cell 9
        have e10 := r1.cell 10
        simp only [List.getElem?_cons_zero, List.getElem?_cons_succ] at e0 e1 e2 e3 e4 e5 e6 e7 e8 e9 e10
        have f0 := r1.frozen 0
        have f1 := r1.frozen 1
        have f2 := r1.frozen 2
        have f3 := r1.frozen 3
        have f4 := r1.frozen 4
        have f5 := r1.frozen 5
        have f6 := r1.frozen 6
        have f7 := r1.frozen 7
        have f8 := r1.frozen 8
        have f9 := r1.frozen 9
        have f10 := r1.frozen 10
        have zp := hp.lt
        have z1 := r1.lt
        clear hp r0 r1
        have q0 := q_.cell 0
        have q1 := q_.cell 1
        simp only [List.getElem?_cons_zero, List.getElem?_cons_succ] at q0 q1
        have zq := q_.lt
        clear q_
        go_cut [7, 8, 30] from 30 to 48 (fun v7 v8 i30 wx => i30 = .int .i64 k ∧ v8 = .bool is ∧ ∃ gl, v7 = .pointer (some ⟨gl, 0, none⟩) ∧ Row wx gl 30 (lckCs l) ∧ Same (fun _ => True) wb wx)
        case first =>
          refine wp_region_tail_d (L := [.eq (.pointer (some ⟨g, 0, none⟩)), .eq (.pointer (some ⟨g, 0, none⟩)), .eq (.pointer (some ⟨g, 6, none⟩)), .eq (.slice Ac p.cells.length cc), .eq (.agg #[.string (str s1), .string (str s2)]), .eq (.pointer (some ⟨w.heap.size, 8, none⟩)), .eq (stV c.at_), .eq (.tuple #[lckV l, .bool is]), .eq (.tuple #[lckV l, .bool is]), .eq (lckV l), .eq (.bool is), .of ⟨fun v w => ∃ gl, v = .pointer (some ⟨gl, 0, none⟩) ∧ wb.heap.size ≤ gl ∧ Row w gl 30 (lckCs Lck.zero), fun _ _ _ ⟨gl, h1, h2, h3⟩ k => ⟨gl, h1, h2, h3.keep k trivial⟩⟩]) 12 10 (by omega) (by kernel_rfl) (by kernel_rfl) rfl rfl rfl rfl rfl rfl ?_ ?_ ?_
          · refine ⟨?_, ?_, ?_, ?_, ?_, ?_, ?_, ?_, ?_, ?_, ?_, ?_, trivial⟩
            · intro ac wc hs hd hz hf hw K hK
              have e0 : ac.eval (.tmp 0) = (.pointer (some ⟨g, 0, none⟩)) := hf 0 rfl
              clear hd hz hf hw
              simp only [Region.wanted, if_true, Oper.wp, execOp, resolve, List.map_toArray, List.map_cons, List.map_nil, Option.map_some, Option.map_none, e0]
              go_simp
              exact hK _ _ rfl (Same.refl _ _)
            · intro ac wc hs hd hz hf hw K hK
              have e0 : ac.eval (.tmp 35) = (.pointer (some ⟨g, 0, none⟩)) := hw 0 rfl
              clear hd hz hf hw
              simp only [Region.wanted, if_true, Oper.wp, execOp, resolve, List.map_toArray, List.map_cons, List.map_nil, Option.map_some, Option.map_none, e0]
              go_simp
              exact hK _ _ rfl (Same.refl _ _)
            · intro ac wc hs hd hz hf hw K hK
              have e0 : ac.eval (.tmp 36) = (.pointer (some ⟨g, 0, none⟩)) := hw 1 rfl
              clear hd hz hf hw
              simp only [Region.wanted, if_true, Oper.wp, execOp, resolve, List.map_toArray, List.map_cons, List.map_nil, Option.map_some, Option.map_none, e0]
              go_simp
              exact hK _ _ rfl (Same.refl _ _)
            · intro ac wc hs hd hz hf hw K hK
              have e0 : ac.eval (.tmp 37) = (.pointer (some ⟨g, 6, none⟩)) := hw 2 rfl
              have m0 : wc.cell? ⟨g, 6, none⟩ = some (.slice Ac p.cells.length cc) := hs.cell (p := ⟨g, 6, none⟩) trivial p6
              clear hd hz hf hw
              simp only [Region.wanted, if_true, Oper.wp, execOp, resolve, List.map_toArray, List.map_cons, List.map_nil, Option.map_some, Option.map_none, e0]
              go_simp
              exact hK _ _ rfl (Same.refl _ _)
            · intro ac wc hs hd hz hf hw K hK
              have e0 : ac.eval (.tmp 6) = (.pointer (some ⟨wo.heap.size, 0, none⟩)) := hf 6 rfl
              have m0 : wc.cell? ⟨wo.heap.size, 0, none⟩ = some (.string (str s1)) := hs.cell (p := ⟨wo.heap.size, 0, none⟩) trivial q0
              have m1 : wc.cell? ⟨wo.heap.size, 1, none⟩ = some (.string (str s2)) := hs.cell (p := ⟨wo.heap.size, 1, none⟩) trivial q1
              clear hd hz hf hw
              simp only [Region.wanted, if_true, Oper.wp, execOp, resolve, List.map_toArray, List.map_cons, List.map_nil, Option.map_some, Option.map_none, e0]
              go_simp
              exact hK _ _ rfl (Same.refl _ _)
            · intro ac wc hs hd hz hf hw K hK
              have e0 : ac.eval (.tmp 3) = (.pointer (some ⟨w.heap.size, 0, none⟩)) := hf 3 rfl
              clear hd hz hf hw
              simp only [Region.wanted, if_true, Oper.wp, execOp, resolve, List.map_toArray, List.map_cons, List.map_nil, Option.map_some, Option.map_none, e0]
              go_simp
              exact hK _ _ rfl (Same.refl _ _)
            · intro ac wc hs hd hz hf hw K hK
              have e0 : ac.eval (.tmp 40) = (.pointer (some ⟨w.heap.size, 8, none⟩)) := hw 5 rfl
              have m0 : wc.cell? ⟨w.heap.size, 8, none⟩ = some (.int .i64 c.at_.wall) := hs.cell (p := ⟨w.heap.size, 8, none⟩) trivial c8
              have m1 : wc.cell? ⟨w.heap.size, 9, none⟩ = some (.int .i64 c.at_.tie) := hs.cell (p := ⟨w.heap.size, 9, none⟩) trivial c9
              clear hd hz hf hw
              simp only [Region.wanted, if_true, Oper.wp, execOp, resolve, List.map_toArray, List.map_cons, List.map_nil, Option.map_some, Option.map_none, e0]
              go_simp
              exact hK _ _ rfl (Same.refl _ _)
            · intro ac wc hs hd hz hf hw K hK
              have e0 : ac.eval (.tmp 38) = (.slice Ac p.cells.length cc) := hw 3 rfl
              have e1 : ac.eval (.tmp 39) = (.agg #[.string (str s1), .string (str s2)]) := hw 4 rfl
              have e2 : ac.eval (.tmp 41) = (stV c.at_) := hw 6 rfl
              clear hd hz hf hw
              simp only [Region.wanted, if_true, Oper.wp, execOp, resolve, List.map_toArray, List.map_cons, List.map_nil, Option.map_some, Option.map_none, e0, e1, e2]
              go_simp
              refine (gb wc hs).mono ?_
              rintro e wd ⟨rfl, hs2⟩
              exact hK _ _ rfl hs2
            · intro ac wc hs hd hz hf hw K hK
              have e0 : ac.eval (.tmp 42) = (.tuple #[lckV l, .bool is]) := hw 7 rfl
              clear hd hz hf hw
              simp only [Region.wanted, if_true, Oper.wp, execOp, resolve, List.map_toArray, List.map_cons, List.map_nil, Option.map_some, Option.map_none, e0]
              go_simp
              exact hK _ _ rfl (Same.refl _ _)
            · intro ac wc hs hd hz hf hw K hK
              have e0 : ac.eval (.tmp 34) = (.tuple #[lckV l, .bool is]) := hw 8 rfl
              clear hd hz hf hw
              simp only [Region.wanted, if_true, Oper.wp, execOp, resolve, List.map_toArray, List.map_cons, List.map_nil, Option.map_some, Option.map_none, e0]
              go_simp
              exact hK _ _ rfl (Same.refl _ _)
            · intro ac wc hs hd hz hf hw K hK
              have e0 : ac.eval (.tmp 34) = (.tuple #[lckV l, .bool is]) := hw 8 rfl
              clear hd hz hf hw
              simp only [Region.wanted, if_true, Oper.wp, execOp, resolve, List.map_toArray, List.map_cons, List.map_nil, Option.map_some, Option.map_none, e0]
              go_simp
              exact hK _ _ rfl (Same.refl _ _)
            · intro ac wc hs hd hz hf hw K hK
              clear hd hz hf hw
              simp only [Region.wanted, if_true, Oper.wp, execOp, resolve, List.map_toArray, List.map_cons, List.map_nil, Option.map_some, Option.map_none]
              go_simp
              exact hK _ _ ⟨_, rfl, hs.size, Row.new _ _ (lckCs Lck.zero)⟩ ((Same.refl _ _).alloc _)
          · intro vs wR hvl hvp hsR
            rcases vs with _ | ⟨z0, _ | ⟨z1, _ | ⟨z2, _ | ⟨z3, _ | ⟨z4, _ | ⟨z5, _ | ⟨z6, _ | ⟨z7, _ | ⟨z8, _ | ⟨z9, _ | ⟨z10, _ | ⟨z11, _ | ⟨zz, zr⟩⟩⟩⟩⟩⟩⟩⟩⟩⟩⟩⟩⟩
            rotate_right 1
            · simp at hvl
            · simp at hvl
            · simp at hvl
            · simp at hvl
            · simp at hvl
            · simp at hvl
            · simp at hvl
            · simp at hvl
            · simp at hvl
            · simp at hvl
            · simp at hvl
            · simp at hvl
            · simp at hvl
            · obtain rfl : z0 = (.pointer (some ⟨g, 0, none⟩)) := hvp 0 (by omega)
              obtain rfl : z1 = (.pointer (some ⟨g, 0, none⟩)) := hvp 1 (by omega)
              obtain rfl : z2 = (.pointer (some ⟨g, 6, none⟩)) := hvp 2 (by omega)
              obtain rfl : z3 = (.slice Ac p.cells.length cc) := hvp 3 (by omega)
              obtain rfl : z4 = (.agg #[.string (str s1), .string (str s2)]) := hvp 4 (by omega)
              obtain rfl : z5 = (.pointer (some ⟨w.heap.size, 8, none⟩)) := hvp 5 (by omega)
              obtain rfl : z6 = (stV c.at_) := hvp 6 (by omega)
              obtain rfl : z7 = (.tuple #[lckV l, .bool is]) := hvp 7 (by omega)
              obtain rfl : z8 = (.tuple #[lckV l, .bool is]) := hvp 8 (by omega)
              obtain rfl : z9 = (lckV l) := hvp 9 (by omega)
              obtain rfl : z10 = (.bool is) := hvp 10 (by omega)
              have hxl : (⟨fun v w => ∃ gl, v = .pointer (some ⟨gl, 0, none⟩) ∧ wb.heap.size ≤ gl ∧ Row w gl 30 (lckCs Lck.zero), fun _ _ _ ⟨gl, h1, h2, h3⟩ k => ⟨gl, h1, h2, h3.keep k trivial⟩⟩ : SP).p z11 wR := hvp 11 (by omega)
              clear hvl hvp
              simp only [putAll, Act.put, List.setIfInBounds_toArray, List.set_cons_succ, List.set_cons_zero, List.take_succ_cons, List.take_zero, List.drop_succ_cons, List.drop_zero, List.eraseIdx_cons_succ, List.eraseIdx_cons_zero]
              obtain ⟨gl, rfl, hgl2, hrl⟩ := hxl
              have zl := hrl.lt
              have RL := Lib.hid hrl
              have l0 := hrl.cell 0
              have l1 := hrl.cell 1
              have l2 := hrl.cell 2
              have l3 := hrl.cell 3
              have l4 := hrl.cell 4
              have l5 := hrl.cell 5
              have l6 := hrl.cell 6
              have l7 := hrl.cell 7
              have l8 := hrl.cell 8
              simp only [lckCs, Lck.zero, List.getElem?_cons_zero, List.getElem?_cons_succ] at l0 l1 l2 l3 l4 l5 l6 l7 l8
              have h0 := hrl.frozen 0
              have h1 := hrl.frozen 1
              have h2 := hrl.frozen 2
              have h3 := hrl.frozen 3
              have h4 := hrl.frozen 4
              have h5 := hrl.frozen 5
              have h6 := hrl.frozen 6
              have h7 := hrl.frozen 7
              have h8 := hrl.frozen 8
              clear hrl
              go_wp2
              go_meet
              exact ⟨rfl, rfl, gl, rfl, RL.out.sets (lckCs l) 0, Same.sets' (by omega) (lckCs l) 0 hsR⟩
          · intro vs wR hvl hvp hsR
            rcases vs with _ | ⟨z0, _ | ⟨z1, _ | ⟨z2, _ | ⟨z3, _ | ⟨z4, _ | ⟨z5, _ | ⟨z6, _ | ⟨z7, _ | ⟨z8, _ | ⟨z9, _ | ⟨z11, _ | ⟨zz, zr⟩⟩⟩⟩⟩⟩⟩⟩⟩⟩⟩⟩
            rotate_right 1
            · simp at hvl
            · simp at hvl
            · simp at hvl
            · simp at hvl
            · simp at hvl
            · simp at hvl
            · simp at hvl
            · simp at hvl
            · simp at hvl
            · simp at hvl
            · simp at hvl
            · simp at hvl
            · obtain rfl : z0 = (.pointer (some ⟨g, 0, none⟩)) := hvp 0 (by omega)
              obtain rfl : z1 = (.pointer (some ⟨g, 0, none⟩)) := hvp 1 (by omega)
              obtain rfl : z2 = (.pointer (some ⟨g, 6, none⟩)) := hvp 2 (by omega)
              obtain rfl : z3 = (.slice Ac p.cells.length cc) := hvp 3 (by omega)
              obtain rfl : z4 = (.agg #[.string (str s1), .string (str s2)]) := hvp 4 (by omega)
              obtain rfl : z5 = (.pointer (some ⟨w.heap.size, 8, none⟩)) := hvp 5 (by omega)
              obtain rfl : z6 = (stV c.at_) := hvp 6 (by omega)
              obtain rfl : z7 = (.tuple #[lckV l, .bool is]) := hvp 7 (by omega)
              obtain rfl : z8 = (.tuple #[lckV l, .bool is]) := hvp 8 (by omega)
              obtain rfl : z9 = (lckV l) := hvp 9 (by omega)
              have hxl : (⟨fun v w => ∃ gl, v = .pointer (some ⟨gl, 0, none⟩) ∧ wb.heap.size ≤ gl ∧ Row w gl 30 (lckCs Lck.zero), fun _ _ _ ⟨gl, h1, h2, h3⟩ k => ⟨gl, h1, h2, h3.keep k trivial⟩⟩ : SP).p z11 wR := hvp 10 (by omega)
              clear hvl hvp
              simp only [putAll, Act.put, List.setIfInBounds_toArray, List.set_cons_succ, List.set_cons_zero, List.take_succ_cons, List.take_zero, List.drop_succ_cons, List.drop_zero, List.eraseIdx_cons_succ, List.eraseIdx_cons_zero]
              obtain ⟨gl, rfl, hgl2, hrl⟩ := hxl
              have zl := hrl.lt
              have RL := Lib.hid hrl
              have l0 := hrl.cell 0
              have l1 := hrl.cell 1
              have l2 := hrl.cell 2
              have l3 := hrl.cell 3
              have l4 := hrl.cell 4
              have l5 := hrl.cell 5
              have l6 := hrl.cell 6
              have l7 := hrl.cell 7
              have l8 := hrl.cell 8
              simp only [lckCs, Lck.zero, List.getElem?_cons_zero, List.getElem?_cons_succ] at l0 l1 l2 l3 l4 l5 l6 l7 l8
              have h0 := hrl.frozen 0
              have h1 := hrl.frozen 1
              have h2 := hrl.frozen 2
              have h3 := hrl.frozen 3
              have h4 := hrl.frozen 4
              have h5 := hrl.frozen 5
              have h6 := hrl.frozen 6
              have h7 := hrl.frozen 7
              have h8 := hrl.frozen 8
              clear hrl
              go_wp2
              go_meet
              exact ⟨rfl, rfl, gl, rfl, RL.out.sets (lckCs l) 0, Same.sets' (by omega) (lckCs l) 0 hsR⟩
        case rest =>
          obtain ⟨rfl, rfl, gl, rfl, hrl, hSc⟩ := hcut
          have HSc := Lib.hid (HSb.out.trans hSc)
          clear p0 p1 p2 p3 p4 p5 p6 p7 p8 c0 c1 c2 c3 c4 c5 c6 c7 c8 c9 c10 c11 c12 c13 e0 f0 e1 f1 e2 f2 e3 f3 e4 f4 e5 f5 e6 f6 e7 f7 e8 f8 e9 f9 e10 f10 zp z1
          clear q0 q1 zq gb
          cases is
          · have Hst2 := Lib.hid (show blockedF p.cells c.at_ (c.spans.drop k) = blockedF p.cells c.at_ (c.spans.drop (k + 1)) by simpa using Hst.out)
            clear hrl hSc
            go_wp2
            go_roundw
            case rel => exact ⟨k + 1, by go_num, by omega, by rw [← Hst2.out]; exact Hbl.out, HSc.out⟩
            case measure => simp [intOf]; omega
          · have HL := Lib.hid (show readF p c = (p, lockedR l) by
              have h1 : blockedF p.cells c.at_ c.spans = some l := by rw [← Hbl.out]; simpa using Hst.out
              unfold readF
              rw [if_neg (by have := HL1.out; omega), h1])
            have l0 := hrl.cell 0
            have l1 := hrl.cell 1
            have l2 := hrl.cell 2
            have l3 := hrl.cell 3
            have l4 := hrl.cell 4
            have l5 := hrl.cell 5
            have l6 := hrl.cell 6
            have l7 := hrl.cell 7
            have l8 := hrl.cell 8
            simp only [lckCs, List.getElem?_cons_zero, List.getElem?_cons_succ] at l0 l1 l2 l3 l4 l5 l6 l7 l8
            have zl := hrl.lt
            clear hrl hSc
            have hp := HP.out.keep HSc.out trivial
            have r0 := R0.out.keep HSc.out trivial
            have r1 := R1.out.keep HSc.out trivial
            have p0 := hp.cell 0
            have p1 := hp.cell 1
            have p2 := hp.cell 2
            have p3 := hp.cell 3
            have p4 := hp.cell 4
            have p5 := hp.cell 5
            have p6 := hp.cell 6
            have p7 := hp.cell 7
            have p8 := hp.cell 8
            simp only [List.getElem?_cons_zero, List.getElem?_cons_succ] at p0 p1 p2 p3 p4 p5 p6 p7 p8
            have c0 := r0.cell 0
            have c1 := r0.cell 1
            have c2 := r0.cell 2
            have c3 := r0.cell 3
            have c4 := r0.cell 4
            have c5 := r0.cell 5
            have c6 := r0.cell 6
            have c7 := r0.cell 7
            have c8 := r0.cell 8
            have c9 := r0.cell 9
            have c10 := r0.cell 10
            have c11 := r0.cell 11
            have c12 := r0.cell 12
            have c13 := r0.cell 13
            simp only [List.getElem?_cons_zero, List.getElem?_cons_succ] at c0 c1 c2 c3 c4 c5 c6 c7 c8 c9 c10 c11 c12 c13
            have e0 := r1.cell 0
            have e1 := r1.cell 1
            have e2 := r1.cell 2
            have e3 := r1.cell 3
            have e4 := r1.cell 4
            have e5 := r1.cell 5
            have e6 := r1.cell 6
            have e7 := r1.cell 7
            have e8 := r1.cell 8
            have e9 := r1.cell 9
            have e10 := r1.cell 10
            simp only [List.getElem?_cons_zero, List.getElem?_cons_succ] at e0 e1 e2 e3 e4 e5 e6 e7 e8 e9 e10
            have f0 := r1.frozen 0
            have f1 := r1.frozen 1
            have f2 := r1.frozen 2
            have f3 := r1.frozen 3
            have f4 := r1.frozen 4
            have f5 := r1.frozen 5
            have f6 := r1.frozen 6
            have f7 := r1.frozen 7
            have f8 := r1.frozen 8
            have f9 := r1.frozen 9
            have f10 := r1.frozen 10
            have zp := hp.lt
            have z1 := r1.lt
            clear hp r0 r1
            go_wp2_with (go_at_call 112; refine stopAt ?_)
            unfold Hid
            refine (locked_any l wc).mono ?_
            rintro e wd ⟨rfl, hSd⟩
            have HSd := Lib.hid (HSc.out.trans hSd)
            have R1 := Lib.hid (R1.out.keep HSd.out trivial)
            have HP := Lib.hid (HP.out.keep HSd.out trivial)
            have R0 := Lib.hid (R0.out.keep HSd.out trivial)
            clear hSd l0 l1 l2 l3 l4 l5 l6 l7 l8 zl
            clear p0 p1 p2 p3 p4 p5 p6 p7 p8 c0 c1 c2 c3 c4 c5 c6 c7 c8 c9 c10 c11 c12 c13 e0 f0 e1 f1 e2 f2 e3 f3 e4 f4 e5 f5 e6 f6 e7 f7 e8 f8 e9 f9 e10 f10 zp z1
            have hp := HP.out.keep (Same.refl (fun _ => True) wd) trivial
            have r0 := R0.out.keep (Same.refl (fun _ => True) wd) trivial
            have r1 := R1.out.keep (Same.refl (fun _ => True) wd) trivial
            have p0 := hp.cell 0
            have p1 := hp.cell 1
            have p2 := hp.cell 2
            have p3 := hp.cell 3
            have p4 := hp.cell 4
            have p5 := hp.cell 5
            have p6 := hp.cell 6
            have p7 := hp.cell 7
            have p8 := hp.cell 8
            simp only [List.getElem?_cons_zero, List.getElem?_cons_succ] at p0 p1 p2 p3 p4 p5 p6 p7 p8
            have c0 := r0.cell 0
            have c1 := r0.cell 1
            have c2 := r0.cell 2
            have c3 := r0.cell 3
            have c4 := r0.cell 4
            have c5 := r0.cell 5
            have c6 := r0.cell 6
            have c7 := r0.cell 7
            have c8 := r0.cell 8
            have c9 := r0.cell 9
            have c10 := r0.cell 10
            have c11 := r0.cell 11
            have c12 := r0.cell 12
            have c13 := r0.cell 13
            simp only [List.getElem?_cons_zero, List.getElem?_cons_succ] at c0 c1 c2 c3 c4 c5 c6 c7 c8 c9 c10 c11 c12 c13
            have e0 := r1.cell 0
            have e1 := r1.cell 1
            have e2 := r1.cell 2
            have e3 := r1.cell 3
            have e4 := r1.cell 4
            have e5 := r1.cell 5
            have e6 := r1.cell 6
            have e7 := r1.cell 7
            have e8 := r1.cell 8
            have e9 := r1.cell 9
            have e10 := r1.cell 10
            simp only [List.getElem?_cons_zero, List.getElem?_cons_succ] at e0 e1 e2 e3 e4 e5 e6 e7 e8 e9 e10
            have f0 := r1.frozen 0
            have f1 := r1.frozen 1
            have f2 := r1.frozen 2
            have f3 := r1.frozen 3
            have f4 := r1.frozen 4
            have f5 := r1.frozen 5
            have f6 := r1.frozen 6
            have f7 := r1.frozen 7
            have f8 := r1.frozen 8
            have f9 := r1.frozen 9
            have f10 := r1.frozen 10
            have zp := hp.lt
            have z1 := r1.lt
            clear hp r0 r1
            go_wp2
            have hS9 := Same.sets' (S := Sd g vr vd) (w := w) (g := w.heap.size + 1) (by omega) (repCs nilV (lockedR l)) 0 ((HS.out.trans HSd.out).mono fun _ _ _ => trivial)
            have hq9 := Same.sets (S := fun q => q ≠ w.heap.size + 1) (g := w.heap.size + 1) (fun h => h rfl) (repCs nilV (lockedR l)) 0 (Same.refl _ wd)
            rw [HL.out]
            exact bodyPost_ret (read_results (r := lockedR l) (vp := nilV) (show Row _ _ _ (repCs nilV (lockedR l)) from R1.out.sets (repCs nilV (lockedR l)) 0) rfl) rfl ⟨_, _, _, _, rfl, HP.out.keep hq9 (by omega), ((Ho.out.keepAll (HS.out.trans HSd.out)).keepRep R1.out hq9), OwnR.nil _ _, hS9⟩
      · obtain rfl : k = c.spans.length := by omega
        have hnb : blockedF p.cells c.at_ c.spans = none := by rw [← Hbl.out, List.drop_length]; rfl
        have HNB := Lib.hid hnb
        clear hnb Hbl
        clear p0 p1 p2 p3 p4 p5 p6 p7 p8 c0 c1 c2 c3 c4 c5 c6 c7 c8 c9 c10 c11 c12 c13 e0 f0 e1 f1 e2 f2 e3 f3 e4 f4 e5 f5 e6 f6 e7 f7 e8 f8 e9 f9 e10 f10 zp z1
        go_wp2_with (with_reducible refine stopDst 51 rfl ?_)
        unfold Hid
        have ry := Row.new wo 85 (repCs nilV ReplyM.zero)
        have hSy := (Same.refl (fun _ => True) wo).alloc (.cells (repCs nilV ReplyM.zero).toArray 85)
        simp only [repCs, ReplyM.zero] at ry hSy
        revert ry hSy
        generalize wo.alloc (.cells _ 85) = wz
        intro ry hSy
        obtain ⟨g9, hg9⟩ : ∃ g9, g9 = wo.heap.size := ⟨_, rfl⟩
        rw [← hg9] at ry ⊢
        have Hg9 := Lib.hid hg9
        have HSz := Lib.hid (HS3.out.trans hSy)
        have hg9z := ry.lt
        have zz := (R1.out.keep HS3.out trivial).lt
        have zg := (HP.out.keep HS3.out trivial).lt
        rw [← hg9] at zz zg
        have RY := Lib.hid ry
        have HSwz := Lib.hid (HS.out.trans HSz.out)
        have R1 := Lib.hid (R1.out.keep HSz.out trivial)
        have HP := Lib.hid (HP.out.keep HSz.out trivial)
        have R0 := Lib.hid (R0.out.keep HSz.out trivial)
        clear ry hSy hg9
        have hp := HP.out.keep (Same.refl (fun _ => True) wz) trivial
        have r0 := R0.out.keep (Same.refl (fun _ => True) wz) trivial
        have r1 := R1.out.keep (Same.refl (fun _ => True) wz) trivial
        have p0 := hp.cell 0
        have p1 := hp.cell 1
        have p2 := hp.cell 2
        have p3 := hp.cell 3
        have p4 := hp.cell 4
        have p5 := hp.cell 5
        have p6 := hp.cell 6
        have p7 := hp.cell 7
        have p8 := hp.cell 8
        simp only [List.getElem?_cons_zero, List.getElem?_cons_succ] at p0 p1 p2 p3 p4 p5 p6 p7 p8
        have c0 := r0.cell 0
        have c1 := r0.cell 1
        have c2 := r0.cell 2
        have c3 := r0.cell 3
        have c4 := r0.cell 4
        have c5 := r0.cell 5
        have c6 := r0.cell 6
        have c7 := r0.cell 7
        have c8 := r0.cell 8
        have c9 := r0.cell 9
        have c10 := r0.cell 10
        have c11 := r0.cell 11
        have c12 := r0.cell 12
        have c13 := r0.cell 13
        simp only [List.getElem?_cons_zero, List.getElem?_cons_succ] at c0 c1 c2 c3 c4 c5 c6 c7 c8 c9 c10 c11 c12 c13
        have e0 := r1.cell 0
        have e1 := r1.cell 1
        have e2 := r1.cell 2
        have e3 := r1.cell 3
        have e4 := r1.cell 4
        have e5 := r1.cell 5
        have e6 := r1.cell 6
        have e7 := r1.cell 7
        have e8 := r1.cell 8
        have e9 := r1.cell 9
        have e10 := r1.cell 10
        simp only [List.getElem?_cons_zero, List.getElem?_cons_succ] at e0 e1 e2 e3 e4 e5 e6 e7 e8 e9 e10
        have f0 := r1.frozen 0
        have f1 := r1.frozen 1
        have f2 := r1.frozen 2
        have f3 := r1.frozen 3
        have f4 := r1.frozen 4
        have f5 := r1.frozen 5
        have f6 := r1.frozen 6
        have f7 := r1.frozen 7
        have f8 := r1.frozen 8
        have f9 := r1.frozen 9
        have f10 := r1.frozen 10
        have zp := hp.lt
        have z1 := r1.lt
        clear hp r0 r1
        go_wp2
        clear p0 p1 p2 p3 p4 p5 p6 p7 p8 c0 c1 c2 c3 c4 c5 c6 c7 c8 c9 c10 c11 c12 c13 e0 f0 e1 f1 e2 f2 e3 f3 e4 f4 e5 f5 e6 f6 e7 f7 e8 f8 e9 f9 e10 f10 zp z1
        go_loopw [11, 12, 13, 53] (fun _ _ _ i wr => ∃ (k : Nat) (acc : List (List UInt8 × List UInt8)) (vp : Value), i = .int .i64 k ∧ k ≤ c.spans.length ∧ acc.length ≤ 512 ∧ scanAll p.cells c.at_ (c.spans.drop k) acc = scanAll p.cells c.at_ c.spans [] ∧ Row wr g9 85 (repCs vp ReplyM.zero) ∧ OwnP wr g9 vp acc ∧ Same (fun q => q < g9) wz wr) (fun _ _ _ i _ => c.spans.length - (intOf i).toNat)
        case atStart => exact ⟨0, [], nilV, rfl, Nat.zero_le _, by simp, rfl, RY.out, OwnR.nil _ _, Same.refl _ _⟩
        case round =>
          obtain ⟨k, acc, vp, rfl, hk, hacc, hsc, hry, hown, hS4⟩ := hrel
          obtain ⟨wo, rfl⟩ : ∃ wo : World, wo = wr := ⟨_, rfl⟩
          obtain ⟨Aq, cq, rfl, hq1, hq2⟩ := OwnP.form hown
          unfold maxLen at hq2
          have HS4 := Lib.hid hS4
          have Hown := Lib.hid hown
          have Hsc := Lib.hid hsc
          have RY := Lib.hid hry
          have R1 := Lib.hid (R1.out.keep hS4 (by omega))
          have HP := Lib.hid (HP.out.keep hS4 (by omega))
          have R0 := Lib.hid (R0.out.keep hS4 (by omega))
          have hzo := hS4.size
          clear hS4 hown hsc hry
          have HSw4 := Lib.hid (HSwz.out.trans' HS4.out fun q hq _ => by have := HSwz.out; have := Hg9.out; have := HS.out.size; have := HS3.out.size; omega)
          have hp := HP.out.keep (Same.refl (fun _ => True) wo) trivial
          have r0 := R0.out.keep (Same.refl (fun _ => True) wo) trivial
          have r1 := R1.out.keep (Same.refl (fun _ => True) wo) trivial
          have p0 := hp.cell 0
          have p1 := hp.cell 1
          have p2 := hp.cell 2
          have p3 := hp.cell 3
          have p4 := hp.cell 4
          have p5 := hp.cell 5
          have p6 := hp.cell 6
          have p7 := hp.cell 7
          have p8 := hp.cell 8
          simp only [List.getElem?_cons_zero, List.getElem?_cons_succ] at p0 p1 p2 p3 p4 p5 p6 p7 p8
          have c0 := r0.cell 0
          have c1 := r0.cell 1
          have c2 := r0.cell 2
          have c3 := r0.cell 3
          have c4 := r0.cell 4
          have c5 := r0.cell 5
          have c6 := r0.cell 6
          have c7 := r0.cell 7
          have c8 := r0.cell 8
          have c9 := r0.cell 9
          have c10 := r0.cell 10
          have c11 := r0.cell 11
          have c12 := r0.cell 12
          have c13 := r0.cell 13
          simp only [List.getElem?_cons_zero, List.getElem?_cons_succ] at c0 c1 c2 c3 c4 c5 c6 c7 c8 c9 c10 c11 c12 c13
          have e0 := r1.cell 0
          have e1 := r1.cell 1
          have e2 := r1.cell 2
          have e3 := r1.cell 3
          have e4 := r1.cell 4
          have e5 := r1.cell 5
          have e6 := r1.cell 6
          have e7 := r1.cell 7
          have e8 := r1.cell 8
          have e9 := r1.cell 9
          have e10 := r1.cell 10
          simp only [List.getElem?_cons_zero, List.getElem?_cons_succ] at e0 e1 e2 e3 e4 e5 e6 e7 e8 e9 e10
          have f0 := r1.frozen 0
          have f1 := r1.frozen 1
          have f2 := r1.frozen 2
          have f3 := r1.frozen 3
          have f4 := r1.frozen 4
          have f5 := r1.frozen 5
          have f6 := r1.frozen 6
          have f7 := r1.frozen 7
          have f8 := r1.frozen 8
          have f9 := r1.frozen 9
          have f10 := r1.frozen 10
          have zp := hp.lt
          have z1 := r1.lt
          clear hp r0 r1
          by_cases hlt : k < c.spans.length
          · obtain ⟨ad, rfl, -, s0_, s1_⟩ := SpanR.cells (RowR.keepAll Hsp.out HSw4.out) hlt
            have x1 : (0 : Int) ≤ (k : Int) := by omega
            have x2 : (k : Int) < (c.spans.length : Int) := by omega
            have hab := World.block_lt_of_cell? wo _ s0_
            have hst := scanAll_step (cs := p.cells) (a := c.at_) (acc := acc) hlt
            have hfit := @scan_fits p.cells c.spans[k].1 c.spans[k].2 c.at_ (512 - (acc.length : Int))
            have gb := fun W (hW : Same (fun _ => True) wo W) => mvscan_any (.slice Ac p.cells.length cc) p.cells c.spans[k].1 c.spans[k].2 c.at_ (512 - (acc.length : Int)) (fun q => q < W.heap.size) W (((Ho.out.cells.reads.keepAll HSw4.out).keepAll hW).mono fun q hq _ => hq) (fun q h => h) Hso.out (by omega)
            obtain ⟨⟨L, E⟩, hLE⟩ : ∃ r, r = scanF p.cells c.spans[k].1 c.spans[k].2 c.at_ (512 - (acc.length : Int)) := ⟨_, rfl⟩
            rw [← hLE] at gb hst hfit
            have Hst := Lib.hid hst
            have Hfit := Lib.hid hfit
            clear hLE hst hfit
            generalize c.spans[k] = sp at *
            obtain ⟨s1, s2⟩ := sp
            have hwr : IntKind.i64.wrap (512 - (acc.length : Int)) = 512 - (acc.length : Int) := by rw [IntKind.wrap_i64]; omega
            go_wp2
            have q_ := Row.new wo 53 [.string (str s1), .string (str s2)]
            have hSa := (Same.refl (fun _ => True) wo).alloc (.cells ([.string (str s1), .string (str s2)] : List Value).toArray 53)
            clear hab s0_ s1_
            clear p0 p1 p2 p3 p4 p5 p6 p7 p8 c0 c1 c2 c3 c4 c5 c6 c7 c8 c9 c10 c11 c12 c13 e0 f0 e1 f1 e2 f2 e3 f3 e4 f4 e5 f5 e6 f6 e7 f7 e8 f8 e9 f9 e10 f10 zp z1
            revert q_ hSa
            generalize wo.alloc (.cells _ 53) = wb
            intro q_ hSa
            have HSa := Lib.hid hSa
            have gb := fun W (hW : Same (fun _ => True) wb W) => gb W (hSa.trans hW)
            have hzb := hSa.size
            clear hSa
            have hp := HP.out.keep HSa.out trivial
            have r0 := R0.out.keep HSa.out trivial
            have r1 := R1.out.keep HSa.out trivial
            have p0 := hp.cell 0
            have p1 := hp.cell 1
            have p2 := hp.cell 2
            have p3 := hp.cell 3
            have p4 := hp.cell 4
            have p5 := hp.cell 5
            have p6 := hp.cell 6
            have p7 := hp.cell 7
            have p8 := hp.cell 8
            simp only [List.getElem?_cons_zero, List.getElem?_cons_succ] at p0 p1 p2 p3 p4 p5 p6 p7 p8
            have c0 := r0.cell 0
            have c1 := r0.cell 1
            have c2 := r0.cell 2
            have c3 := r0.cell 3
            have c4 := r0.cell 4
            have c5 := r0.cell 5
            have c6 := r0.cell 6
            have c7 := r0.cell 7
            have c8 := r0.cell 8
            have c9 := r0.cell 9
            have c10 := r0.cell 10
            have c11 := r0.cell 11
            have c12 := r0.cell 12
            have c13 := r0.cell 13
            simp only [List.getElem?_cons_zero, List.getElem?_cons_succ] at c0 c1 c2 c3 c4 c5 c6 c7 c8 c9 c10 c11 c12 c13
            have e0 := r1.cell 0
            have e1 := r1.cell 1
            have e2 := r1.cell 2
            have e3 := r1.cell 3
            have e4 := r1.cell 4
            have e5 := r1.cell 5
            have e6 := r1.cell 6
            have e7 := r1.cell 7
            have e8 := r1.cell 8
            have e9 := r1.cell 9
            have e10 := r1.cell 10
            simp only [List.getElem?_cons_zero, List.getElem?_cons_succ] at e0 e1 e2 e3 e4 e5 e6 e7 e8 e9 e10
            have f0 := r1.frozen 0
            have f1 := r1.frozen 1
            have f2 := r1.frozen 2
            have f3 := r1.frozen 3
            have f4 := r1.frozen 4
            have f5 := r1.frozen 5
            have f6 := r1.frozen 6
            have f7 := r1.frozen 7
            have f8 := r1.frozen 8
            have f9 := r1.frozen 9
            have f10 := r1.frozen 10
            have zp := hp.lt
            have z1 := r1.lt
            clear hp r0 r1
            have q0 := q_.cell 0
            have q1 := q_.cell 1
            simp only [List.getElem?_cons_zero, List.getElem?_cons_succ] at q0 q1
            have zq := q_.lt
            have y1 := (RY.out.keep HSa.out trivial).cell 1
            simp only [repCs, List.getElem?_cons_zero, List.getElem?_cons_succ] at y1
            have zy := (RY.out.keep HSa.out trivial).lt
            clear q_
            go_cut [12, 13, 53] from 53 to 81 (fun v12 v13 i53 wx => i53 = .int .i64 k ∧ v13 = .int .i64 E ∧ OwnP wx g9 v12 L ∧ Same (fun _ => True) wb wx)
            case first =>
              refine wp_region_tail_d (L := [.eq (.pointer (some ⟨g, 0, none⟩)), .eq (.pointer (some ⟨g, 0, none⟩)), .eq (.pointer (some ⟨g, 6, none⟩)), .eq (.slice Ac p.cells.length cc), .eq (.agg #[.string (str s1), .string (str s2)]), .eq (.pointer (some ⟨w.heap.size, 8, none⟩)), .eq (stV c.at_), .eq (.pointer (some ⟨g9, 1, none⟩)), .eq (.slice Aq acc.length cq), .eq (.int .i64 acc.length), .eq (.int .i64 (512 - (acc.length : Int))), .of ⟨fun v w => ∃ u, v = .tuple #[u, .int .i64 E] ∧ OwnP w g9 u L, fun _ _ _ ⟨u, h1, h2⟩ k => ⟨u, h1, h2.keepAll k⟩⟩, .of ⟨fun v w => ∃ u, v = .tuple #[u, .int .i64 E] ∧ OwnP w g9 u L, fun _ _ _ ⟨u, h1, h2⟩ k => ⟨u, h1, h2.keepAll k⟩⟩, .of ⟨fun u w => OwnP w g9 u L, fun _ _ _ h k => h.keepAll k⟩, .eq (.int .i64 E)]) 15 14 (by omega) (by kernel_rfl) (by kernel_rfl) rfl rfl rfl rfl rfl rfl ?_ ?_ ?_
              · refine ⟨?_, ?_, ?_, ?_, ?_, ?_, ?_, ?_, ?_, ?_, ?_, ?_, ?_, ?_, ?_, trivial⟩
                · intro ac wc hs hd hz hf hw K hK
                  have e0 : ac.eval (.tmp 0) = (.pointer (some ⟨g, 0, none⟩)) := hf 0 rfl
                  clear hd hz hf hw
                  simp only [Region.wanted, if_true, Oper.wp, execOp, resolve, List.map_toArray, List.map_cons, List.map_nil, Option.map_some, Option.map_none, e0]
                  go_simp
                  exact hK _ _ rfl (Same.refl _ _)
                · intro ac wc hs hd hz hf hw K hK
                  have e0 : ac.eval (.tmp 58) = (.pointer (some ⟨g, 0, none⟩)) := hw 0 rfl
                  clear hd hz hf hw
                  simp only [Region.wanted, if_true, Oper.wp, execOp, resolve, List.map_toArray, List.map_cons, List.map_nil, Option.map_some, Option.map_none, e0]
                  go_simp
                  exact hK _ _ rfl (Same.refl _ _)
                · intro ac wc hs hd hz hf hw K hK
                  have e0 : ac.eval (.tmp 59) = (.pointer (some ⟨g, 0, none⟩)) := hw 1 rfl
                  clear hd hz hf hw
                  simp only [Region.wanted, if_true, Oper.wp, execOp, resolve, List.map_toArray, List.map_cons, List.map_nil, Option.map_some, Option.map_none, e0]
                  go_simp
                  exact hK _ _ rfl (Same.refl _ _)
                · intro ac wc hs hd hz hf hw K hK
                  have e0 : ac.eval (.tmp 60) = (.pointer (some ⟨g, 6, none⟩)) := hw 2 rfl
                  have m0 : wc.cell? ⟨g, 6, none⟩ = some (.slice Ac p.cells.length cc) := hs.cell (p := ⟨g, 6, none⟩) trivial p6
                  clear hd hz hf hw
                  simp only [Region.wanted, if_true, Oper.wp, execOp, resolve, List.map_toArray, List.map_cons, List.map_nil, Option.map_some, Option.map_none, e0]
                  go_simp
                  exact hK _ _ rfl (Same.refl _ _)
                · intro ac wc hs hd hz hf hw K hK
                  have e0 : ac.eval (.tmp 11) = (.pointer (some ⟨wo.heap.size, 0, none⟩)) := hf 11 rfl
                  have m0 : wc.cell? ⟨wo.heap.size, 0, none⟩ = some (.string (str s1)) := hs.cell (p := ⟨wo.heap.size, 0, none⟩) trivial q0
                  have m1 : wc.cell? ⟨wo.heap.size, 1, none⟩ = some (.string (str s2)) := hs.cell (p := ⟨wo.heap.size, 1, none⟩) trivial q1
                  clear hd hz hf hw
                  simp only [Region.wanted, if_true, Oper.wp, execOp, resolve, List.map_toArray, List.map_cons, List.map_nil, Option.map_some, Option.map_none, e0]
                  go_simp
                  exact hK _ _ rfl (Same.refl _ _)
                · intro ac wc hs hd hz hf hw K hK
                  have e0 : ac.eval (.tmp 3) = (.pointer (some ⟨w.heap.size, 0, none⟩)) := hf 3 rfl
                  clear hd hz hf hw
                  simp only [Region.wanted, if_true, Oper.wp, execOp, resolve, List.map_toArray, List.map_cons, List.map_nil, Option.map_some, Option.map_none, e0]
                  go_simp
                  exact hK _ _ rfl (Same.refl _ _)
                · intro ac wc hs hd hz hf hw K hK
                  have e0 : ac.eval (.tmp 63) = (.pointer (some ⟨w.heap.size, 8, none⟩)) := hw 5 rfl
                  have m0 : wc.cell? ⟨w.heap.size, 8, none⟩ = some (.int .i64 c.at_.wall) := hs.cell (p := ⟨w.heap.size, 8, none⟩) trivial c8
                  have m1 : wc.cell? ⟨w.heap.size, 9, none⟩ = some (.int .i64 c.at_.tie) := hs.cell (p := ⟨w.heap.size, 9, none⟩) trivial c9
                  clear hd hz hf hw
                  simp only [Region.wanted, if_true, Oper.wp, execOp, resolve, List.map_toArray, List.map_cons, List.map_nil, Option.map_some, Option.map_none, e0]
                  go_simp
                  exact hK _ _ rfl (Same.refl _ _)
                · intro ac wc hs hd hz hf hw K hK
                  have e0 : ac.eval (.tmp 9) = (.pointer (some ⟨g9, 0, none⟩)) := hf 9 rfl
                  clear hd hz hf hw
                  simp only [Region.wanted, if_true, Oper.wp, execOp, resolve, List.map_toArray, List.map_cons, List.map_nil, Option.map_some, Option.map_none, e0]
                  go_simp
                  exact hK _ _ rfl (Same.refl _ _)
                · intro ac wc hs hd hz hf hw K hK
                  have e0 : ac.eval (.tmp 65) = (.pointer (some ⟨g9, 1, none⟩)) := hw 7 rfl
                  have m0 : wc.cell? ⟨g9, 1, none⟩ = some (.slice Aq acc.length cq) := hs.cell (p := ⟨g9, 1, none⟩) trivial y1
                  clear hd hz hf hw
                  simp only [Region.wanted, if_true, Oper.wp, execOp, resolve, List.map_toArray, List.map_cons, List.map_nil, Option.map_some, Option.map_none, e0]
                  go_simp
                  exact hK _ _ rfl (Same.refl _ _)
                · intro ac wc hs hd hz hf hw K hK
                  have e0 : ac.eval (.tmp 66) = (.slice Aq acc.length cq) := hw 8 rfl
                  clear hd hz hf hw
                  simp only [Region.wanted, if_true, Oper.wp, execOp, resolve, List.map_toArray, List.map_cons, List.map_nil, Option.map_some, Option.map_none, e0]
                  go_simp
                  exact hK _ _ rfl (Same.refl _ _)
                · intro ac wc hs hd hz hf hw K hK
                  have e0 : ac.eval (.tmp 67) = (.int .i64 acc.length) := hw 9 rfl
                  clear hd hz hf hw
                  simp only [Region.wanted, if_true, Oper.wp, execOp, resolve, List.map_toArray, List.map_cons, List.map_nil, Option.map_some, Option.map_none, e0]
                  go_simp
                  exact hK _ _ rfl (Same.refl _ _)
                · intro ac wc hs hd hz hf hw K hK
                  have e0 : ac.eval (.tmp 61) = (.slice Ac p.cells.length cc) := hw 3 rfl
                  have e1 : ac.eval (.tmp 62) = (.agg #[.string (str s1), .string (str s2)]) := hw 4 rfl
                  have e2 : ac.eval (.tmp 64) = (stV c.at_) := hw 6 rfl
                  have e3 : ac.eval (.tmp 68) = (.int .i64 (512 - (acc.length : Int))) := hw 10 rfl
                  clear hd hz hf hw
                  simp only [Region.wanted, if_true, Oper.wp, execOp, resolve, List.map_toArray, List.map_cons, List.map_nil, Option.map_some, Option.map_none, e0, e1, e2, e3]
                  go_simp
                  refine (gb wc hs).mono ?_
                  rintro e wd ⟨u, rfl, hown, hS⟩
                  exact hK _ _ ⟨u, rfl, hown.lower (by have := hs.size; omega)⟩ hS
                · intro ac wc hs hd hz hf hw K hK
                  have p0 : (⟨fun v w => ∃ u, v = .tuple #[u, .int .i64 E] ∧ OwnP w g9 u L, fun _ _ _ ⟨u, h1, h2⟩ k => ⟨u, h1, h2.keepAll k⟩⟩ : SP).p (ac.eval (.tmp 69)) wc := hw 11 rfl
                  obtain ⟨u0, e0⟩ : ∃ u, ac.eval (.tmp 69) = u := ⟨_, rfl⟩
                  rw [e0] at p0
                  clear hd hz hf hw
                  simp only [Region.wanted, if_true, Oper.wp, execOp, resolve, List.map_toArray, List.map_cons, List.map_nil, Option.map_some, Option.map_none, e0]
                  go_simp
                  exact hK _ _ p0 (Same.refl _ _)
                · intro ac wc hs hd hz hf hw K hK
                  have p0 : (⟨fun v w => ∃ u, v = .tuple #[u, .int .i64 E] ∧ OwnP w g9 u L, fun _ _ _ ⟨u, h1, h2⟩ k => ⟨u, h1, h2.keepAll k⟩⟩ : SP).p (ac.eval (.tmp 57)) wc := hw 12 rfl
                  obtain ⟨u0, e0⟩ : ∃ u, ac.eval (.tmp 57) = u := ⟨_, rfl⟩
                  rw [e0] at p0
                  clear hd hz hf hw
                  simp only [Region.wanted, if_true, Oper.wp, execOp, resolve, List.map_toArray, List.map_cons, List.map_nil, Option.map_some, Option.map_none, e0]
                  go_simp
                  obtain ⟨u, e, hu⟩ := p0
                  subst e
                  go_simp
                  exact hK _ _ hu (Same.refl _ _)
                · intro ac wc hs hd hz hf hw K hK
                  have p0 : (⟨fun v w => ∃ u, v = .tuple #[u, .int .i64 E] ∧ OwnP w g9 u L, fun _ _ _ ⟨u, h1, h2⟩ k => ⟨u, h1, h2.keepAll k⟩⟩ : SP).p (ac.eval (.tmp 57)) wc := hw 12 rfl
                  obtain ⟨u0, e0⟩ : ∃ u, ac.eval (.tmp 57) = u := ⟨_, rfl⟩
                  rw [e0] at p0
                  clear hd hz hf hw
                  simp only [Region.wanted, if_true, Oper.wp, execOp, resolve, List.map_toArray, List.map_cons, List.map_nil, Option.map_some, Option.map_none, e0]
                  go_simp
                  obtain ⟨u, e, hu⟩ := p0
                  subst e
                  go_simp
                  exact hK _ _ rfl (Same.refl _ _)
              · intro vs wR hvl hvp hsR
                rcases vs with _ | ⟨z0, _ | ⟨z1, _ | ⟨z2, _ | ⟨z3, _ | ⟨z4, _ | ⟨z5, _ | ⟨z6, _ | ⟨z7, _ | ⟨z8, _ | ⟨z9, _ | ⟨z10, _ | ⟨z11, _ | ⟨z12, _ | ⟨z13, _ | ⟨z14, _ | ⟨zz, zr⟩⟩⟩⟩⟩⟩⟩⟩⟩⟩⟩⟩⟩⟩⟩⟩
                rotate_right 1
                · simp at hvl
                · simp at hvl
                · simp at hvl
                · simp at hvl
                · simp at hvl
                · simp at hvl
                · simp at hvl
                · simp at hvl
                · simp at hvl
                · simp at hvl
                · simp at hvl
                · simp at hvl
                · simp at hvl
                · simp at hvl
                · simp at hvl
                · simp at hvl
                · obtain rfl : z0 = (.pointer (some ⟨g, 0, none⟩)) := hvp 0 (by omega)
                  obtain rfl : z1 = (.pointer (some ⟨g, 0, none⟩)) := hvp 1 (by omega)
                  obtain rfl : z2 = (.pointer (some ⟨g, 6, none⟩)) := hvp 2 (by omega)
                  obtain rfl : z3 = (.slice Ac p.cells.length cc) := hvp 3 (by omega)
                  obtain rfl : z4 = (.agg #[.string (str s1), .string (str s2)]) := hvp 4 (by omega)
                  obtain rfl : z5 = (.pointer (some ⟨w.heap.size, 8, none⟩)) := hvp 5 (by omega)
                  obtain rfl : z6 = (stV c.at_) := hvp 6 (by omega)
                  obtain rfl : z7 = (.pointer (some ⟨g9, 1, none⟩)) := hvp 7 (by omega)
                  obtain rfl : z8 = (.slice Aq acc.length cq) := hvp 8 (by omega)
                  obtain rfl : z9 = (.int .i64 acc.length) := hvp 9 (by omega)
                  obtain rfl : z10 = (.int .i64 (512 - (acc.length : Int))) := hvp 10 (by omega)
                  have ht69 : (⟨fun v w => ∃ u, v = .tuple #[u, .int .i64 E] ∧ OwnP w g9 u L, fun _ _ _ ⟨u, h1, h2⟩ k => ⟨u, h1, h2.keepAll k⟩⟩ : SP).p z11 wR := hvp 11 (by omega)
                  have ht57 : (⟨fun v w => ∃ u, v = .tuple #[u, .int .i64 E] ∧ OwnP w g9 u L, fun _ _ _ ⟨u, h1, h2⟩ k => ⟨u, h1, h2.keepAll k⟩⟩ : SP).p z12 wR := hvp 12 (by omega)
                  have ht70 : (⟨fun u w => OwnP w g9 u L, fun _ _ _ h k => h.keepAll k⟩ : SP).p z13 wR := hvp 13 (by omega)
                  obtain rfl : z14 = (.int .i64 E) := hvp 14 (by omega)
                  clear hvl hvp
                  simp only [putAll, Act.put, List.setIfInBounds_toArray, List.set_cons_succ, List.set_cons_zero, List.take_succ_cons, List.take_zero, List.drop_succ_cons, List.drop_zero, List.eraseIdx_cons_succ, List.eraseIdx_cons_zero]
                  go_wp2
                  go_meet
                  exact ⟨rfl, rfl, ht70, hsR⟩
              · intro vs wR hvl hvp hsR
                rcases vs with _ | ⟨z0, _ | ⟨z1, _ | ⟨z2, _ | ⟨z3, _ | ⟨z4, _ | ⟨z5, _ | ⟨z6, _ | ⟨z7, _ | ⟨z8, _ | ⟨z9, _ | ⟨z10, _ | ⟨z11, _ | ⟨z12, _ | ⟨z13, _ | ⟨zz, zr⟩⟩⟩⟩⟩⟩⟩⟩⟩⟩⟩⟩⟩⟩⟩
                rotate_right 1
                · simp at hvl
                · simp at hvl
                · simp at hvl
                · simp at hvl
                · simp at hvl
                · simp at hvl
                · simp at hvl
                · simp at hvl
                · simp at hvl
                · simp at hvl
                · simp at hvl
                · simp at hvl
                · simp at hvl
                · simp at hvl
                · simp at hvl
                · obtain rfl : z0 = (.pointer (some ⟨g, 0, none⟩)) := hvp 0 (by omega)
                  obtain rfl : z1 = (.pointer (some ⟨g, 0, none⟩)) := hvp 1 (by omega)
                  obtain rfl : z2 = (.pointer (some ⟨g, 6, none⟩)) := hvp 2 (by omega)
                  obtain rfl : z3 = (.slice Ac p.cells.length cc) := hvp 3 (by omega)
                  obtain rfl : z4 = (.agg #[.string (str s1), .string (str s2)]) := hvp 4 (by omega)
                  obtain rfl : z5 = (.pointer (some ⟨w.heap.size, 8, none⟩)) := hvp 5 (by omega)
                  obtain rfl : z6 = (stV c.at_) := hvp 6 (by omega)
                  obtain rfl : z7 = (.pointer (some ⟨g9, 1, none⟩)) := hvp 7 (by omega)
                  obtain rfl : z8 = (.slice Aq acc.length cq) := hvp 8 (by omega)
                  obtain rfl : z9 = (.int .i64 acc.length) := hvp 9 (by omega)
                  obtain rfl : z10 = (.int .i64 (512 - (acc.length : Int))) := hvp 10 (by omega)
                  have ht69 : (⟨fun v w => ∃ u, v = .tuple #[u, .int .i64 E] ∧ OwnP w g9 u L, fun _ _ _ ⟨u, h1, h2⟩ k => ⟨u, h1, h2.keepAll k⟩⟩ : SP).p z11 wR := hvp 11 (by omega)
                  have ht57 : (⟨fun v w => ∃ u, v = .tuple #[u, .int .i64 E] ∧ OwnP w g9 u L, fun _ _ _ ⟨u, h1, h2⟩ k => ⟨u, h1, h2.keepAll k⟩⟩ : SP).p z12 wR := hvp 12 (by omega)
                  have ht70 : (⟨fun u w => OwnP w g9 u L, fun _ _ _ h k => h.keepAll k⟩ : SP).p z13 wR := hvp 13 (by omega)
                  clear hvl hvp
                  simp only [putAll, Act.put, List.setIfInBounds_toArray, List.set_cons_succ, List.set_cons_zero, List.take_succ_cons, List.take_zero, List.drop_succ_cons, List.drop_zero, List.eraseIdx_cons_succ, List.eraseIdx_cons_zero]
                  obtain ⟨u57, e57, hu57⟩ := ht57
                  subst e57
                  go_wp2
                  go_meet
                  exact ⟨rfl, rfl, ht70, hsR⟩
            case rest =>
              obtain ⟨rfl, rfl, hown12, hSc⟩ := hcut
              have HSc := Lib.hid (HSa.out.trans hSc)
              have HSwc := Lib.hid (HSw4.out.trans HSc.out)
              have Hown12 := Lib.hid hown12
              obtain ⟨AL, cL, rfl, hL1, hL2⟩ := OwnP.form hown12
              unfold maxLen at hL2
              clear p0 p1 p2 p3 p4 p5 p6 p7 p8 c0 c1 c2 c3 c4 c5 c6 c7 c8 c9 c10 c11 c12 c13 e0 f0 e1 f1 e2 f2 e3 f3 e4 f4 e5 f5 e6 f6 e7 f7 e8 f8 e9 f9 e10 f10 zp z1
              clear q0 q1 zq y1 zy gb hown12 hwr
              have R1 := Lib.hid (R1.out.keep HSc.out trivial)
              have HP := Lib.hid (HP.out.keep HSc.out trivial)
              have R0 := Lib.hid (R0.out.keep HSc.out trivial)
              have RY := Lib.hid (RY.out.keep HSc.out trivial)
              have HownA := Lib.hid (Hown.out.keepAll HSc.out)
              have hzc := HSc.out.size
              clear hSc
              have hp := HP.out.keep (Same.refl (fun _ => True) wc) trivial
              have r0 := R0.out.keep (Same.refl (fun _ => True) wc) trivial
              have r1 := R1.out.keep (Same.refl (fun _ => True) wc) trivial
              have p0 := hp.cell 0
              have p1 := hp.cell 1
              have p2 := hp.cell 2
              have p3 := hp.cell 3
              have p4 := hp.cell 4
              have p5 := hp.cell 5
              have p6 := hp.cell 6
              have p7 := hp.cell 7
              have p8 := hp.cell 8
              simp only [List.getElem?_cons_zero, List.getElem?_cons_succ] at p0 p1 p2 p3 p4 p5 p6 p7 p8
              have c0 := r0.cell 0
              have c1 := r0.cell 1
              have c2 := r0.cell 2
              have c3 := r0.cell 3
              have c4 := r0.cell 4
              have c5 := r0.cell 5
              have c6 := r0.cell 6
              have c7 := r0.cell 7
              have c8 := r0.cell 8
              have c9 := r0.cell 9
              have c10 := r0.cell 10
              have c11 := r0.cell 11
              have c12 := r0.cell 12
              have c13 := r0.cell 13
              simp only [List.getElem?_cons_zero, List.getElem?_cons_succ] at c0 c1 c2 c3 c4 c5 c6 c7 c8 c9 c10 c11 c12 c13
              have e0 := r1.cell 0
              have e1 := r1.cell 1
              have e2 := r1.cell 2
              have e3 := r1.cell 3
              have e4 := r1.cell 4
              have e5 := r1.cell 5
              have e6 := r1.cell 6
              have e7 := r1.cell 7
              have e8 := r1.cell 8
              have e9 := r1.cell 9
              have e10 := r1.cell 10
              simp only [List.getElem?_cons_zero, List.getElem?_cons_succ] at e0 e1 e2 e3 e4 e5 e6 e7 e8 e9 e10
              have f0 := r1.frozen 0
              have f1 := r1.frozen 1
              have f2 := r1.frozen 2
              have f3 := r1.frozen 3
              have f4 := r1.frozen 4
              have f5 := r1.frozen 5
              have f6 := r1.frozen 6
              have f7 := r1.frozen 7
              have f8 := r1.frozen 8
              have f9 := r1.frozen 9
              have f10 := r1.frozen 10
              have zp := hp.lt
              have z1 := r1.lt
              clear hp r0 r1
              by_cases hE : E = 0
              · subst hE
                have hfit := Hfit.out rfl
                have hyc := RY.out
                unfold repCs at hyc
                have y1 := hyc.cell 1
                simp only [List.getElem?_cons_zero, List.getElem?_cons_succ] at y1
                have fy1 := hyc.frozen 1
                have zy := hyc.lt
                clear hyc
                go_wp2_with (at_builtin; refine stopAt ?_)
                unfold Hid
                refine wpList_appR TP (fun _ => rfl) pairCs_one rfl (.tmp 77) (.tmp 78) rfl rfl rfl ((OwnR.wr Hown12.out).row fun _ => rfl) HownA.out (by omega) (by simp only [maxLen]; omega) (by omega) ?_
                intro v7 w7 hown7 hS7
                clear p0 p1 p2 p3 p4 p5 p6 p7 p8 c0 c1 c2 c3 c4 c5 c6 c7 c8 c9 c10 c11 c12 c13 e0 f0 e1 f1 e2 f2 e3 f3 e4 f4 e5 f5 e6 f6 e7 f7 e8 f8 e9 f9 e10 f10 zp z1
                have hge : ∀ q, q < g9 → some q ≠ Value.ownBlock (.slice Aq acc.length cq) := fun q hq e => by have := (HownA.out.lt q e.symm).1; omega
                obtain ⟨A7, c7, rfl, -, -⟩ := OwnP.form hown7
                rw [List.length_append] at hown7 ⊢
                have ry7 := RY.out.keep hS7 (OwnR.neRow HownA.out RY.out (by decide))
                have RY7 := Lib.hid ry7
                unfold repCs at ry7
                have y1 := ry7.cell 1
                simp only [List.getElem?_cons_zero, List.getElem?_cons_succ] at y1
                have fy1 := ry7.frozen 1
                have zy := ry7.lt
                have HS7 := Lib.hid ((HSc.out.mono (S' := fun q => q < g9) fun _ _ _ => trivial).trans' hS7 fun q _ hq => hge q hq)
                have Hown7 := Lib.hid hown7
                clear ry7 hS7 hown7 hge
                go_wp2
                go_roundw
                case rel =>
                  have hs8 : Same (fun q => q ≠ g9) w7 (w7.setCell ⟨g9, 1, none⟩ (.slice A7 (acc.length + L.length) c7)) := (Same.refl _ _).setCell (fun _ h => h rfl) _
                  refine ⟨k + 1, acc ++ L, .slice A7 (acc.length + L.length) c7, by go_num, by omega, ?_, ?_, RY7.out.set_ 1 _, OwnR.keepG Hown7.out RY7.out (by decide) hs8, (HS4.out.trans HS7.out).trans' hs8 fun q _ hq => by omega⟩
                  · rw [List.length_append]; omega
                  · rw [← Hsc.out, Hst.out]; rfl
                case measure => simp [intOf]; omega
              · have hE2 : (E != 0) = true := by simpa using hE
                have HL := Lib.hid (show readF p c = (p, repErr E) by
                  have h1 : scanAll p.cells c.at_ c.spans [] = ([], E) := by rw [← Hsc.out, Hst.out]; simp [hE]
                  unfold readF
                  rw [if_neg (by have := HL1.out; omega), HNB.out, h1]
                  simp [hE])
                have HEh := Lib.hid hE
                clear hE
                go_wp2
                have hS9 := Same.sets' (S := Sd g vr vd) (w := w) (g := w.heap.size + 1) (by omega) (repCs nilV (repErr E)) 0 (HSwc.out.mono fun _ _ _ => trivial)
                have hq9 := Same.sets (S := fun q => q ≠ w.heap.size + 1) (g := w.heap.size + 1) (fun h => h rfl) (repCs nilV (repErr E)) 0 (Same.refl _ wc)
                rw [HL.out]
                exact bodyPost_ret (read_results (r := repErr E) (vp := nilV) (show Row _ _ _ (repCs nilV (repErr E)) from R1.out.sets (repCs nilV (repErr E)) 0) rfl) rfl ⟨_, _, _, _, rfl, HP.out.keep hq9 (by omega), ((Ho.out.keepAll HSwc.out).keepRep R1.out hq9), OwnR.nil _ _, hS9⟩
          · obtain rfl : k = c.spans.length := by omega
            have HL := Lib.hid (show readF p c = ({ p with floor := maxS p.floor c.at_ }, { ReplyM.zero with pairs := acc }) by
              have h1 : scanAll p.cells c.at_ c.spans [] = (acc, 0) := by rw [← Hsc.out, List.drop_length]; rfl
              unfold readF
              rw [if_neg (by have := HL1.out; omega), HNB.out, h1]
              rfl)
            go_wp2
            refine wp_region_tail_lit (L := [.eq (.pointer (some ⟨g, 0, none⟩)), .eq (.pointer (some ⟨g, 0, none⟩)), .eq (.pointer (some ⟨g, 0, none⟩)), .eq (.pointer (some ⟨g, 2, none⟩)), .eq (stV p.floor), .eq (.pointer (some ⟨w.heap.size, 8, none⟩)), .eq (stV c.at_), .eq (stV (maxS p.floor c.at_))]) 8 (by kernel_rfl) (by kernel_rfl) rfl rfl rfl ?_ ?_
            · refine ⟨?_, ?_, ?_, ?_, ?_, ?_, ?_, ?_, trivial⟩
              · intro ac wc hs hd hz hf hw K hK
                have e0 : ac.eval (.tmp 0) = (.pointer (some ⟨g, 0, none⟩)) := hf 0 rfl
                clear hd hz hf hw
                simp only [Region.wanted, if_true, Oper.wp, execOp, resolve, List.map_toArray, List.map_cons, List.map_nil, Option.map_some, Option.map_none, e0]
                go_simp
                exact hK _ _ rfl (Same.refl _ _)
              · intro ac wc hs hd hz hf hw K hK
                have e0 : ac.eval (.tmp 0) = (.pointer (some ⟨g, 0, none⟩)) := hf 0 rfl
                clear hd hz hf hw
                simp only [Region.wanted, if_true, Oper.wp, execOp, resolve, List.map_toArray, List.map_cons, List.map_nil, Option.map_some, Option.map_none, e0]
                go_simp
                exact hK _ _ rfl (Same.refl _ _)
              · intro ac wc hs hd hz hf hw K hK
                have e0 : ac.eval (.tmp 83) = (.pointer (some ⟨g, 0, none⟩)) := hw 1 rfl
                clear hd hz hf hw
                simp only [Region.wanted, if_true, Oper.wp, execOp, resolve, List.map_toArray, List.map_cons, List.map_nil, Option.map_some, Option.map_none, e0]
                go_simp
                exact hK _ _ rfl (Same.refl _ _)
              · intro ac wc hs hd hz hf hw K hK
                have e0 : ac.eval (.tmp 84) = (.pointer (some ⟨g, 0, none⟩)) := hw 2 rfl
                clear hd hz hf hw
                simp only [Region.wanted, if_true, Oper.wp, execOp, resolve, List.map_toArray, List.map_cons, List.map_nil, Option.map_some, Option.map_none, e0]
                go_simp
                exact hK _ _ rfl (Same.refl _ _)
              · intro ac wc hs hd hz hf hw K hK
                have e0 : ac.eval (.tmp 85) = (.pointer (some ⟨g, 2, none⟩)) := hw 3 rfl
                have m0 : wc.cell? ⟨g, 2, none⟩ = some (.int .i64 p.floor.wall) := hs.cell (p := ⟨g, 2, none⟩) trivial p2
                have m1 : wc.cell? ⟨g, 3, none⟩ = some (.int .i64 p.floor.tie) := hs.cell (p := ⟨g, 3, none⟩) trivial p3
                clear hd hz hf hw
                simp only [Region.wanted, if_true, Oper.wp, execOp, resolve, List.map_toArray, List.map_cons, List.map_nil, Option.map_some, Option.map_none, e0]
                go_simp
                exact hK _ _ rfl (Same.refl _ _)
              · intro ac wc hs hd hz hf hw K hK
                have e0 : ac.eval (.tmp 3) = (.pointer (some ⟨w.heap.size, 0, none⟩)) := hf 3 rfl
                clear hd hz hf hw
                simp only [Region.wanted, if_true, Oper.wp, execOp, resolve, List.map_toArray, List.map_cons, List.map_nil, Option.map_some, Option.map_none, e0]
                go_simp
                exact hK _ _ rfl (Same.refl _ _)
              · intro ac wc hs hd hz hf hw K hK
                have e0 : ac.eval (.tmp 87) = (.pointer (some ⟨w.heap.size, 8, none⟩)) := hw 5 rfl
                have m0 : wc.cell? ⟨w.heap.size, 8, none⟩ = some (.int .i64 c.at_.wall) := hs.cell (p := ⟨w.heap.size, 8, none⟩) trivial c8
                have m1 : wc.cell? ⟨w.heap.size, 9, none⟩ = some (.int .i64 c.at_.tie) := hs.cell (p := ⟨w.heap.size, 9, none⟩) trivial c9
                clear hd hz hf hw
                simp only [Region.wanted, if_true, Oper.wp, execOp, resolve, List.map_toArray, List.map_cons, List.map_nil, Option.map_some, Option.map_none, e0]
                go_simp
                exact hK _ _ rfl (Same.refl _ _)
              · intro ac wc hs hd hz hf hw K hK
                have e0 : ac.eval (.tmp 86) = (stV p.floor) := hw 4 rfl
                have e1 : ac.eval (.tmp 88) = (stV c.at_) := hw 6 rfl
                clear hd hz hf hw
                simp only [Region.wanted, if_true, Oper.wp, execOp, resolve, List.map_toArray, List.map_cons, List.map_nil, Option.map_some, Option.map_none, e0, e1]
                go_simp
                refine (maxs_any p.floor c.at_ wc).mono ?_
                rintro e wd ⟨rfl, hs2⟩
                exact hK _ _ rfl hs2
            · intro vs wR hvl hvp hsR
              rcases vs with _ | ⟨z0, _ | ⟨z1, _ | ⟨z2, _ | ⟨z3, _ | ⟨z4, _ | ⟨z5, _ | ⟨z6, _ | ⟨z7, _ | ⟨zz, zr⟩⟩⟩⟩⟩⟩⟩⟩⟩
              rotate_right 1
              · simp at hvl
              · simp at hvl
              · simp at hvl
              · simp at hvl
              · simp at hvl
              · simp at hvl
              · simp at hvl
              · simp at hvl
              · simp at hvl
              · obtain rfl : z0 = (.pointer (some ⟨g, 0, none⟩)) := hvp 0 (by omega)
                obtain rfl : z1 = (.pointer (some ⟨g, 0, none⟩)) := hvp 1 (by omega)
                obtain rfl : z2 = (.pointer (some ⟨g, 0, none⟩)) := hvp 2 (by omega)
                obtain rfl : z3 = (.pointer (some ⟨g, 2, none⟩)) := hvp 3 (by omega)
                obtain rfl : z4 = (stV p.floor) := hvp 4 (by omega)
                obtain rfl : z5 = (.pointer (some ⟨w.heap.size, 8, none⟩)) := hvp 5 (by omega)
                obtain rfl : z6 = (stV c.at_) := hvp 6 (by omega)
                obtain rfl : z7 = (stV (maxS p.floor c.at_)) := hvp 7 (by omega)
                clear hvl hvp
                simp only [putAll, Act.put, List.setIfInBounds_toArray, List.set_cons_succ, List.set_cons_zero, List.take_succ_cons, List.take_zero, List.drop_succ_cons, List.drop_zero, List.eraseIdx_cons_succ, List.eraseIdx_cons_zero]
                clear p0 p1 p2 p3 p4 p5 p6 p7 p8 c0 c1 c2 c3 c4 c5 c6 c7 c8 c9 c10 c11 c12 c13 e0 f0 e1 f1 e2 f2 e3 f3 e4 f4 e5 f5 e6 f6 e7 f7 e8 f8 e9 f9 e10 f10 zp z1
                have hp_ := HP.out.keep hsR trivial
                have k2 := hp_.frozen 2
                have k3 := hp_.frozen 3
                have p2 := hp_.cell 2
                have p3 := hp_.cell 3
                simp only [List.getElem?_cons_zero, List.getElem?_cons_succ] at p2 p3
                have zp := hp_.lt
                have HPR := Lib.hid hp_
                have HSR := Lib.hid hsR
                clear hp_ hsR
                go_wp2_with (with_reducible refine stopDst 92 rfl ?_)
                unfold Hid
                have hp5 := (HPR.out.set_ 2 (.int .i64 (maxS p.floor c.at_).wall)).set_ 3 (.int .i64 (maxS p.floor c.at_).tie)
                have hS5 : Same (fun q => q ≠ g) wR ((wR.setCell ⟨g, 2, none⟩ (.int .i64 (maxS p.floor c.at_).wall)).setCell ⟨g, 3, none⟩ (.int .i64 (maxS p.floor c.at_).tie)) := ((Same.refl _ _).setCell (fun _ h => h rfl) _).setCell (fun _ h => h rfl) _
                clear p2 p3 k2 k3 zp
                revert hp5 hS5
                generalize (wR.setCell _ _).setCell _ _ = w5
                intro hp5 hS5
                have HP := Lib.hid (show Row w5 g 77 (partCs (.slice Ac p.cells.length cc) vr vd { p with floor := maxS p.floor c.at_ }) from hp5)
                have HS5 := Lib.hid ((HSR.out.mono (S' := fun q => q ≠ g) fun _ _ _ => trivial).trans hS5)
                have R1 := Lib.hid (R1.out.keep HS5.out (by omega))
                have RY5 := Lib.hid (RY.out.keep HS5.out (by omega))
                have Hown5 := Lib.hid (OwnR.keepG (Hown.out.keepAll HSR.out) HPR.out (by decide) hS5)
                have HOw := Lib.hid ((((Ho.out.keepAll HSw4.out).keepAll HSR.out).keepG HPR.out hS5).upd (p' := { p with floor := maxS p.floor c.at_ }))
                have HSw5 := Lib.hid ((HSw4.out.mono (S' := Sd g vr vd) fun _ _ _ => trivial).trans' HS5.out fun q _ hq => hq.1)
                clear hp5 hS5
                have hy := RY5.out
                unfold repCs at hy
                have y0 := hy.cell 0
                have y1 := hy.cell 1
                have y2 := hy.cell 2
                have y3 := hy.cell 3
                have y4 := hy.cell 4
                have y5 := hy.cell 5
                have y6 := hy.cell 6
                have y7 := hy.cell 7
                have y8 := hy.cell 8
                have y9 := hy.cell 9
                have y10 := hy.cell 10
                simp only [ReplyM.zero, List.getElem?_cons_zero, List.getElem?_cons_succ] at y0 y1 y2 y3 y4 y5 y6 y7 y8 y9 y10
                have zy := hy.lt
                have r1 := R1.out
                have e0 := r1.cell 0
                have e1 := r1.cell 1
                have e2 := r1.cell 2
                have e3 := r1.cell 3
                have e4 := r1.cell 4
                have e5 := r1.cell 5
                have e6 := r1.cell 6
                have e7 := r1.cell 7
                have e8 := r1.cell 8
                have e9 := r1.cell 9
                have e10 := r1.cell 10
                simp only [List.getElem?_cons_zero, List.getElem?_cons_succ] at e0 e1 e2 e3 e4 e5 e6 e7 e8 e9 e10
                have f0 := r1.frozen 0
                have f1 := r1.frozen 1
                have f2 := r1.frozen 2
                have f3 := r1.frozen 3
                have f4 := r1.frozen 4
                have f5 := r1.frozen 5
                have f6 := r1.frozen 6
                have f7 := r1.frozen 7
                have f8 := r1.frozen 8
                have f9 := r1.frozen 9
                have f10 := r1.frozen 10
                have z1 := r1.lt
                have n1 : g9 ≠ w.heap.size + 1 := by omega
                clear hy r1
                go_wp2
                have hS9 := Same.sets' (S := Sd g vr vd) (w := w) (g := w.heap.size + 1) (by omega) (repCs (.slice Aq acc.length cq) ({ ReplyM.zero with pairs := acc })) 0 HSw5.out
                have hq9 := Same.sets (S := fun q => q ≠ w.heap.size + 1) (g := w.heap.size + 1) (fun h => h rfl) (repCs (.slice Aq acc.length cq) ({ ReplyM.zero with pairs := acc })) 0 (Same.refl _ w5)
                rw [HL.out]
                exact bodyPost_ret (read_results (r := { ReplyM.zero with pairs := acc }) (vp := (.slice Aq acc.length cq)) (show Row _ _ _ (repCs (.slice Aq acc.length cq) ({ ReplyM.zero with pairs := acc })) from R1.out.sets (repCs (.slice Aq acc.length cq) ({ ReplyM.zero with pairs := acc })) 0) rfl) rfl ⟨_, _, _, _, rfl, HP.out.keep hq9 (by omega), (HOw.out.keepRep R1.out hq9), (OwnR.keepG Hown5.out R1.out (by decide) hq9).lower (by omega), hS9⟩
end Go.Proofs.Ytoldelocfmpccaa
