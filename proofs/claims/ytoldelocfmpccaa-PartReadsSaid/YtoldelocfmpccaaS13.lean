/-
  Words, plain models, laws and walks that the claims of this layer share (joined by shake.py). No condition.
-/
import Derived.Carry
import Derived.Test.YtoldelocfmpccaaS1
import Derived.Test.YtoldelocfmpccaaS2
import Derived.Test.YtoldelocfmpccaaS3
import Derived.Test.YtoldelocfmpccaaS4
import Derived.Test.YtoldelocfmpccaaS5
import Derived.Test.YtoldelocfmpccaaS6
import Derived.Test.YtoldelocfmpccaaS7
import Derived.Test.YtoldelocfmpccaaS8
import Derived.Test.YtoldelocfmpccaaS9
import Derived.Test.YtoldelocfmpccaaS10
import Derived.Test.YtoldelocfmpccaaS11
import Derived.Test.YtoldelocfmpccaaS12
set_option linter.unusedSimpArgs false
set_option linter.unusedVariables false
namespace Go.Proofs.Ytoldelocfmpccaa
open Go.RowKit
def pCs (u : Value × Value × Value × PartM) : List Value := partCs u.1 u.2.1 u.2.2.1 u.2.2.2
theorem pCs_len (u : Value × Value × Value × PartM) : (pCs u).length = 9 := rfl
theorem TPart : SlT Try.prog 97 77 9 120 (.agg #[.int .i64 0, .int .i64 0, .int .i64 0, .int .i64 0, .int .i64 0, .int .i64 0, .slice none 0 0, .slice none 0 0, .slice none 0 0]) := ⟨by kernel_rfl, by kernel_rfl, rfl, by omega⟩
def PartsO (w : World) (B : Nat) (v : Value) (ps : List PartM) : Prop := ∃ us : List (Value × Value × Value × PartM), us.map (·.2.2.2) = ps ∧ OwnR pCs 9 77 w B v us ∧ ∀ u ∈ us, OwnPart w B u.1 u.2.1 u.2.2.1 u.2.2.2
section
variable {w w' : World} {B B' : Nat} {v : Value} {ps : List PartM} {S : Nat → Prop}
theorem PartsO.keepAll (h : PartsO w B v ps) (hs : Same (fun _ => True) w w') : PartsO w' B v ps := by
  obtain ⟨us, h1, h2, h3⟩ := h
  exact ⟨us, h1, h2.keepAll hs, fun u hu => (h3 u hu).keepAll hs⟩
theorem PartsO.keep (h : PartsO w B v ps) (hs : Same S w w') (hS : ∀ k, B ≤ k → k < w.heap.size → S k) : PartsO w' B v ps := by
  obtain ⟨us, h1, h2, h3⟩ := h
  exact ⟨us, h1, h2.keep hs hS, fun u hu => (h3 u hu).keep hs hS⟩
theorem PartsO.lower (h : PartsO w B v ps) (hb : B' ≤ B) : PartsO w B' v ps := by
  obtain ⟨us, h1, h2, h3⟩ := h
  exact ⟨us, h1, h2.lower hb, fun u hu => (h3 u hu).lower hb⟩
theorem PartsO.form (h : PartsO w B v ps) : ∃ A c, v = .slice A ps.length c ∧ ps.length ≤ c ∧ c ≤ maxLen := by
  obtain ⟨us, h1, h2, h3⟩ := h
  have e : us.length = ps.length := by rw [← h1, List.length_map]
  have := OwnR.form h2
  rwa [e] at this
theorem PartsO.at_ {A : Option Addr} {n c i : Nat} (h : PartsO w B (.slice A n c) ps) (hi : i < ps.length) :
    ∃ ad vc vr vd, A = some ad ∧ OwnPart w B vc vr vd ps[i] ∧ w.cell? (ad.add (i * 9)) = some (.int .i64 ps[i].epoch) ∧ ∀ j, 0 < j → j < 9 → w.cell? ⟨(ad.add (i * 9)).block, (ad.add (i * 9)).off + j, none⟩ = (partCs vc vr vd ps[i])[j]? := by
  obtain ⟨us, h1, h2, h3⟩ := h
  have hl : i < us.length := by rw [← h1, List.length_map] at hi; exact hi
  have e : ps[i] = us[i].2.2.2 := by simp [← h1]
  obtain ⟨ad, c', hv, a2, a3, a4, a5⟩ := RowR.at_ ((OwnR.wr h2).row pCs_len) pCs_len hl
  injection hv with hA
  refine ⟨ad, us[i].1, us[i].2.1, us[i].2.2.1, hA, by rw [e]; exact h3 _ (List.getElem_mem hl), ?_, fun j h0 hj => ?_⟩
  · have := a5 0 (by omega)
    rw [add_zero] at this
    rw [this, e]
    rfl
  · have := a5 j (by omega)
    rw [addr_add _ j h0] at this
    rw [this, e]
    rfl
end
theorem FineP.toN {n : Nat} {p : PartM} (h : FineP n p) (hn : n ≤ 90000) : PartN p := ⟨h.cells.len (by omega), h.cells.vers (by omega), by have := h.recs; omega, by have := h.done; omega⟩
theorem PartR.all {w : World} {S : Nat → Prop} {vc vr vd : Value} {p : PartM} (h : PartR w S vc vr vd p) : PartR w (fun _ => True) vc vr vd p :=
  ⟨h.cells.mono fun _ _ _ => trivial, h.recs.mono (by omega) fun _ _ _ => trivial, h.done.mono (by omega) fun _ _ _ => trivial⟩
theorem row_one {α : Type} {f : α → List Value} {n : Nat} (hf : ∀ x, (f x).length = n) (hn : 0 < n) {w : World} {g : Nat} {e : TypeId} {o : α} (h : Row w g e (f o)) : RowR f n w (fun _ => True) (.slice (some ⟨g, 0, none⟩) 1 1) [o] := by
  have hsl := h.sl (size := n) (off := 0) (n := 1) (by rw [hf]; omega)
  rw [List.drop_zero, List.take_of_length_le (by rw [hf]; omega)] at hsl
  exact ⟨_, 1, rfl, Nat.le_refl _, by simp [maxLen], by simpa using hsl.mono (fun _ _ _ => trivial) (by omega)⟩
theorem parts_one {w : World} {g B : Nat} {vc vr vd : Value} {q : PartM} (h : Row w g 77 (partCs vc vr vd q)) (hq : OwnPart w B vc vr vd q) (hB : B ≤ g) : PartsO w B (.slice (some ⟨g, 0, none⟩) 1 1) [q] := by
  refine ⟨[(vc, vr, vd, q)], rfl, ?_, fun u hu => by obtain rfl := List.mem_singleton.1 hu; exact hq⟩
  exact OwnR.make (cap := 1) (m := 1) (l := [(vc, vr, vd, q)]) hB h (by simp) (by simp [maxLen]) (by simp [partCs]) (by simp [pCs, partCs]) rfl
theorem OwnPart.keepRow {us : List (Value × Value × Value × PartM)} {w w' : World} {B B' : Nat} {v vc vr vd : Value} {p : PartM} (h : OwnPart w B vc vr vd p) (ho : OwnR pCs 9 77 w B' v us) (hs : Same (fun k => some k ≠ v.ownBlock) w w') : OwnPart w' B vc vr vd p := by
  rcases ownsRow_row ho with ⟨rfl, _, _⟩ | ⟨g', cap, cur, rfl, _, hr', _⟩
  · exact h.keepAll (hs.mono fun k _ _ e => by cases e)
  · exact h.keepG hr' (hs.mono fun k _ hk e => hk (Option.some.inj e))
/-- A part behind a row of parts. -/
theorem wpList_appP {P : Program} {t : TypeId} {bytes : Nat} {z : Value} (T : SlT P t 77 9 bytes z) {ops : Array Oper} {rest : List Oper} {o : Oper} {a : Act} {Q : Exit → Act → World → Prop} (hgd : o.guard = none) (s x : Operand)
    (ho : o.op = .call { callee := .builtin .append, args := #[s, x], argTypes := #[t, t] }) {w : World} {B g : Nat} {v vc vr vd : Value} {ps : List PartM} {q : PartM}
    (h1 : ∀ u ∈ partCs vc vr vd q, u.oneCell' = true) (hs : a.eval s = v) (hx : a.eval x = .slice (some ⟨g, 0, none⟩) 1 1) (hr : Row w g 77 (partCs vc vr vd q)) (hown : PartsO w B v ps) (hq : OwnPart w B vc vr vd q) (hB : B ≤ w.heap.size) (hb : bytes ≤ 1000) (hlen : ps.length ≤ 1000)
    (hK : ∀ v' w', PartsO w' B v' (ps ++ [q]) → Same (fun k => k < B) w w' → wpList P ops Q rest (a.put o.dst v') w') : wpList P ops Q (o :: rest) a w := by
  obtain ⟨us, e1, e2, e3⟩ := hown
  have el : us.length = ps.length := by rw [← e1, List.length_map]
  obtain ⟨A, c, k1, k2, k3, k4⟩ := row_one (f := pCs) pCs_len (by omega) (o := (vc, vr, vd, q)) hr
  injection k1 with k1 k5 k6
  subst k1
  refine wpList_app T _ hgd s x ho B v us.length (us.flatMap pCs) hs e2 (fun _ => True) (some ⟨g, 0, none⟩) 1 1 (pCs (vc, vr, vd, q)) hx (by simpa using k4) h1 (by simp only [maxLen]; omega) ?_ hB ?_
  · have : (us.length + 1) * bytes ≤ 1001 * 1000 := Nat.mul_le_mul (by omega) hb
    omega
  intro v' w' k1 k2 k3
  refine hK v' w' ⟨us ++ [(vc, vr, vd, q)], by simp [e1], ?_, fun u hu => ?_⟩ (k2.mono fun k _ hk e => ?_)
  · unfold OwnR
    rw [List.length_append, List.flatMap_append]
    simpa using k1
  · rcases List.mem_append.1 hu with hu | hu
    · exact (e3 u hu).keepRow e2 k2
    · obtain rfl := List.mem_singleton.1 hu
      exact hq.keepRow e2 k2
  · have := (e2.lt k e.symm).1
    omega
end Go.Proofs.Ytoldelocfmpccaa
namespace Go.Proofs.Ytoldelocfmpccaa
open Go.RowKit
set_option maxHeartbeats 1000000 in
theorem once_nil (A : Option Addr) (c : Nat) (w : World) : Calls Try.prog 83 #[.slice A 0 c] w fun e w' => e = .returned (.bool true) ∧ Same (fun _ => True) w w' := by
  have hmm := @run_makeMap Try.prog
  have hS0 := (Same.refl (fun _ => True) w).alloc (.map #[] 0)
  have HS0 := Lib.hid hS0
  clear hS0
  go_enter Try.func83, Try.ntmps83
  go_wp2
  go_loopw [9] (fun i wr => i = .int .i64 0 ∧ Same (fun _ => True) w wr) (fun i _ => 0)
  case atStart => exact ⟨rfl, HS0.out⟩
  case round =>
    obtain ⟨rfl, hS⟩ := hrel
    have HS := Lib.hid hS
    clear hS
    go_wp2
    go_ret
    exact ⟨rfl, HS.out⟩
set_option maxHeartbeats 2000000 in
theorem pmay_nil (vc vr vd : Value) (p : PartM) (S : Nat → Prop) (w : World) (hv : PartR w S vc vr vd p) (hg : Good p.cells) (hn : PartN p) (hr : p.recs = []) (hd : p.done = []) (he : 0 ≤ p.epoch ∧ p.epoch ≤ 1099511627776) (hl : p.low ≤ p.closed) :
    Calls Try.prog 46 #[partV vc vr vd p] w fun e w' => e = .returned (.bool true) ∧ Same (fun _ => True) w w' := by
  have Hv := Lib.hid hv
  have Hn := Lib.hid hn
  have Hg := Lib.hid hg
  obtain ⟨A0, c0_, rfl, -, hb0⟩ := hv.cells.form
  obtain ⟨A1, c1_, rfl, -, hb1⟩ := OutR.form hv.recs
  obtain ⟨A2, c2_, rfl, -, hb2⟩ := OutR.form hv.done
  rw [hr] at Hv ⊢
  rw [hd] at Hv ⊢
  unfold maxLen at hb0 hb1 hb2
  have r0 := Row.new w 77 (partCs (.slice A0 p.cells.length c0_) (.slice A1 0 c1_) (.slice A2 0 c2_) p)
  have hS0 := (Same.refl (fun _ => True) w).alloc (.cells (partCs (.slice A0 p.cells.length c0_) (.slice A1 0 c1_) (.slice A2 0 c2_) p).toArray 77)
  have Hx := Lib.hid (And.intro hr hd)
  clear hv hn hg hr hd
  go_enter Try.func46, Try.ntmps46
  go_wp2_with (with_reducible refine stopDst 4 rfl ?_)
  unfold Hid
  simp only [partCs] at r0 hS0
  revert r0 hS0
  generalize w.alloc _ = w1
  intro r0 hS0
  have R0 := Lib.hid r0
  have HS0 := Lib.hid hS0
  have p0 := r0.cell 0
  have p1 := r0.cell 1
  have p2 := r0.cell 2
  have p3 := r0.cell 3
  have p4 := r0.cell 4
  have p5 := r0.cell 5
  have p6 := r0.cell 6
  have p7 := r0.cell 7
  have p8 := r0.cell 8
  simp only [List.getElem?_cons_zero, List.getElem?_cons_succ] at p0 p1 p2 p3 p4 p5 p6 p7 p8
  clear r0 hS0
  go_wp2_with (go_at_call 31; refine stopAt ?_)
  unfold Hid
  refine (mvmay_any _ p.cells S w1 (Hv.out.cells.keepAll HS0.out) Hg.out Hn.out.cells Hn.out.vers).mono ?_
  rintro e w2 ⟨rfl, hS⟩
  have HS1 := Lib.hid (HS0.out.trans hS)
  have r0 := R0.out.keep hS trivial
  have R0 := Lib.hid r0
  clear p0 p1 p2 p3 p4 p5 p6 p7 p8
  have p0 := r0.cell 0
  have p1 := r0.cell 1
  have p2 := r0.cell 2
  have p3 := r0.cell 3
  have p4 := r0.cell 4
  have p5 := r0.cell 5
  have p6 := r0.cell 6
  have p7 := r0.cell 7
  have p8 := r0.cell 8
  simp only [List.getElem?_cons_zero, List.getElem?_cons_succ] at p0 p1 p2 p3 p4 p5 p6 p7 p8
  clear r0 hS
  go_wp2_with (go_at_call 83; refine stopAt ?_)
  unfold Hid
  refine (once_nil _ _ w2).mono ?_
  rintro e w3 ⟨rfl, hS⟩
  have HS2 := Lib.hid (HS1.out.trans hS)
  have r0 := R0.out.keep hS trivial
  have R0 := Lib.hid r0
  clear p0 p1 p2 p3 p4 p5 p6 p7 p8
  have p0 := r0.cell 0
  have p1 := r0.cell 1
  have p2 := r0.cell 2
  have p3 := r0.cell 3
  have p4 := r0.cell 4
  have p5 := r0.cell 5
  have p6 := r0.cell 6
  have p7 := r0.cell 7
  have p8 := r0.cell 8
  simp only [List.getElem?_cons_zero, List.getElem?_cons_succ] at p0 p1 p2 p3 p4 p5 p6 p7 p8
  clear r0 hS
  go_wp2_with (go_at_call 83; refine stopAt ?_)
  unfold Hid
  refine (once_nil _ _ w3).mono ?_
  rintro e w4 ⟨rfl, hS⟩
  have HS3 := Lib.hid (HS2.out.trans hS)
  have r0 := R0.out.keep hS trivial
  clear p0 p1 p2 p3 p4 p5 p6 p7 p8
  have p0 := r0.cell 0
  have p1 := r0.cell 1
  have p2 := r0.cell 2
  have p3 := r0.cell 3
  have p4 := r0.cell 4
  have p5 := r0.cell 5
  have p6 := r0.cell 6
  have p7 := r0.cell 7
  have p8 := r0.cell 8
  simp only [List.getElem?_cons_zero, List.getElem?_cons_succ] at p0 p1 p2 p3 p4 p5 p6 p7 p8
  clear r0 hS
  obtain ⟨he1, he2⟩ := he
  have t1 : (p.low == 0) = true ∨ True := .inr trivial
  go_wp2
  go_ret
  exact ⟨rfl, HS3.out⟩
def bgK1 : CmdM := ⟨1, 1, 2, 0, ⟨0, 0, 0, 0⟩, ⟨0, 0⟩, 0, false, [], []⟩
def bgK2 : CmdM := ⟨3, 1, 0, 0, ⟨1, 0, 0, 0⟩, ⟨5, 0⟩, 0, false, [], [⟨[107], false, [120]⟩]⟩
def bgK3 : CmdM := ⟨2, 1, 0, 0, ⟨0, 0, 0, 0⟩, ⟨9, 0⟩, 0, false, [([97], [122])], []⟩
def bgQ1 : PartM := ⟨1, 2, ⟨0, 0⟩, 0, 0, [], [], []⟩
def bgQ2 : PartM := ⟨1, 2, ⟨0, 0⟩, 0, 0, lockAll bgK2 [] bgK2.writes, [], []⟩
theorem bgA1 : applyF PartM.zero bgK1 = (bgQ1, ReplyM.zero) := by rfl
theorem bgA2 : applyF bgQ1 bgK2 = (bgQ2, ReplyM.zero) := by rfl
theorem bgA3 : applyF bgQ2 bgK3 = (bgQ2, lockedR ⟨⟨1, 0, 0, 0⟩, 0, ⟨5, 0⟩, false, [120]⟩) := by rfl
theorem bgF1 : FineP 0 PartM.zero := FineP.zero
theorem bgF2 : FineP 1 bgQ1 := by
  have := fine_step FineP.zero (apply_step PartM.zero bgK1)
  rw [bgA1] at this
  exact this
theorem bgF3 : FineP 3 bgQ2 := by
  have := fine_step bgF2 (apply_step bgQ1 bgK2)
  rw [bgA2] at this
  exact this
set_option maxRecDepth 100000 in
set_option maxHeartbeats 8000000 in
theorem begunp_any (w : World) : Calls Try.prog 38 #[] w fun e w' => e = .returned (.bool true) ∧ Same (fun _ => True) w w' := by
  have ga := apply_any 0 (fun _ => True) nilV nilV nilV nilV nilV PartM.zero bgK1 w ⟨cel_none _ _, RowR.nil_ _ _ _ _ (by simp [maxLen]), RowR.nil_ _ _ _ _ (by simp [maxLen])⟩ (bgF1.toN (by omega)) bgF1.cells (by simp [bgK1]) (by simp [PartM.zero]) (RowR.nil_ _ _ _ _ (by simp [maxLen])) (RowR.nil_ _ _ _ _ (by simp [maxLen]))
  rw [bgA1] at ga
  have HS := Lib.hid (Same.refl (fun _ => True) w)
  go_enter Try.func38, Try.ntmps38
  go_wp2_with (go_at_call 42; refine stopAt ?_)
  unfold Hid
  refine ga.mono ?_
  rintro e w1 ⟨vc, vr, vd, vp, rfl, ho, hp, hS⟩
  clear ga
  obtain ⟨A1_0, c1_0, rfl, -, hb0⟩ := ho.cells.form
  obtain ⟨A1_1, c1_1, rfl, -, hb1⟩ := OwnR.form ho.recs
  obtain ⟨A1_2, c1_2, rfl, -, hb2⟩ := OwnR.form ho.done
  obtain ⟨A1_3, c1_3, rfl, -, hb3⟩ := OwnP.form hp
  unfold maxLen at hb0 hb1 hb2 hb3
  have rp := (Row.new w1 77 (partCs (.slice A1_0 bgQ1.cells.length c1_0) (.slice A1_1 bgQ1.recs.length c1_1) (.slice A1_2 bgQ1.done.length c1_2) bgQ1)).keep ((Same.refl (fun _ => True) _).alloc (.cells (repCs (.slice A1_3 ReplyM.zero.pairs.length c1_3) ReplyM.zero).toArray 85)) trivial
  have rr := Row.new (w1.alloc (.cells (partCs (.slice A1_0 bgQ1.cells.length c1_0) (.slice A1_1 bgQ1.recs.length c1_1) (.slice A1_2 bgQ1.done.length c1_2) bgQ1).toArray 77)) 85 (repCs (.slice A1_3 ReplyM.zero.pairs.length c1_3) ReplyM.zero)
  rw [World.size_alloc] at rr
  have hS0 := ((Same.refl (fun _ => True) w1).alloc (.cells (partCs (.slice A1_0 bgQ1.cells.length c1_0) (.slice A1_1 bgQ1.recs.length c1_1) (.slice A1_2 bgQ1.done.length c1_2) bgQ1).toArray 77)).alloc (.cells (repCs (.slice A1_3 ReplyM.zero.pairs.length c1_3) ReplyM.zero).toArray 85)
  go_wp2_with (with_reducible refine stopDst 14 rfl ?_)
  unfold Hid
  simp only [partCs, repCs] at rp rr hS0
  revert rp rr hS0
  generalize (w1.alloc _).alloc _ = w2
  intro rp rr hS0
  have hsv := hS.trans hS0
  have HS := Lib.hid (HS.out.trans hsv)
  have HP1 := Lib.hid rp
  have HR1 := Lib.hid rr
  have HO1 := Lib.hid (ho.keepAll hS0)
  have p0 := rp.cell 0
  have p1 := rp.cell 1
  have p2 := rp.cell 2
  have p3 := rp.cell 3
  have p4 := rp.cell 4
  have p5 := rp.cell 5
  have p6 := rp.cell 6
  have p7 := rp.cell 7
  have p8 := rp.cell 8
  simp only [List.getElem?_cons_zero, List.getElem?_cons_succ] at p0 p1 p2 p3 p4 p5 p6 p7 p8
  clear ho hp hS rp rr hS0 hsv
  have HSX := Lib.hid ((Same.refl (fun _ => True) w2).alloc (.cells (wrCs ⟨[107], false, [120]⟩).toArray 24))
  go_wp2_with (go_at_call 42; refine stopAt ?_)
  unfold Hid
  have ga := apply_any 1 _ _ _ _ nilV (.slice (some ⟨w2.heap.size, 0, none⟩) 1 1) bgQ1 bgK2 _ (HO1.out.reads.all.keepAll HSX.out) (bgF2.toN (by omega)) bgF2.cells (by simp [bgK2]) (by simp [bgQ1]) (RowR.nil_ _ _ _ _ (by simp [maxLen])) (row_one (f := wrCs) (fun _ => rfl) (by omega) (Row.new w2 24 (wrCs ⟨[107], false, [120]⟩)))
  rw [bgA2] at ga
  refine ga.mono ?_
  have HS := Lib.hid (HS.out.trans HSX.out)
  have HP1 := Lib.hid (HP1.out.keep HSX.out trivial)
  have HR1 := Lib.hid (HR1.out.keep HSX.out trivial)
  clear p0 p1 p2 p3 p4 p5 p6 p7 p8
  rintro e w3 ⟨vc, vr, vd, vp, rfl, ho, hp, hS⟩
  clear ga HSX HO1
  obtain ⟨A2_0, c2_0, rfl, -, hb0⟩ := ho.cells.form
  obtain ⟨A2_1, c2_1, rfl, -, hb1⟩ := OwnR.form ho.recs
  obtain ⟨A2_2, c2_2, rfl, -, hb2⟩ := OwnR.form ho.done
  obtain ⟨A2_3, c2_3, rfl, -, hb3⟩ := OwnP.form hp
  unfold maxLen at hb0 hb1 hb2 hb3
  have rp := (Row.new w3 77 (partCs (.slice A2_0 bgQ2.cells.length c2_0) (.slice A2_1 bgQ2.recs.length c2_1) (.slice A2_2 bgQ2.done.length c2_2) bgQ2)).keep ((Same.refl (fun _ => True) _).alloc (.cells (repCs (.slice A2_3 ReplyM.zero.pairs.length c2_3) ReplyM.zero).toArray 85)) trivial
  have rr := Row.new (w3.alloc (.cells (partCs (.slice A2_0 bgQ2.cells.length c2_0) (.slice A2_1 bgQ2.recs.length c2_1) (.slice A2_2 bgQ2.done.length c2_2) bgQ2).toArray 77)) 85 (repCs (.slice A2_3 ReplyM.zero.pairs.length c2_3) ReplyM.zero)
  rw [World.size_alloc] at rr
  have hS0 := ((Same.refl (fun _ => True) w3).alloc (.cells (partCs (.slice A2_0 bgQ2.cells.length c2_0) (.slice A2_1 bgQ2.recs.length c2_1) (.slice A2_2 bgQ2.done.length c2_2) bgQ2).toArray 77)).alloc (.cells (repCs (.slice A2_3 ReplyM.zero.pairs.length c2_3) ReplyM.zero).toArray 85)
  go_wp2_with (with_reducible refine stopDst 24 rfl ?_)
  unfold Hid
  simp only [partCs, repCs] at rp rr hS0
  revert rp rr hS0
  generalize (w3.alloc _).alloc _ = w4
  intro rp rr hS0
  have hsv := hS.trans hS0
  have HP1 := Lib.hid (HP1.out.keep hsv trivial)
  have HR1 := Lib.hid (HR1.out.keep hsv trivial)
  have HS := Lib.hid (HS.out.trans hsv)
  have HP2 := Lib.hid rp
  have HR2 := Lib.hid rr
  have HO2 := Lib.hid (ho.keepAll hS0)
  have p0 := rp.cell 0
  have p1 := rp.cell 1
  have p2 := rp.cell 2
  have p3 := rp.cell 3
  have p4 := rp.cell 4
  have p5 := rp.cell 5
  have p6 := rp.cell 6
  have p7 := rp.cell 7
  have p8 := rp.cell 8
  simp only [List.getElem?_cons_zero, List.getElem?_cons_succ] at p0 p1 p2 p3 p4 p5 p6 p7 p8
  clear ho hp hS rp rr hS0 hsv
  have HSX := Lib.hid ((Same.refl (fun _ => True) w4).alloc (.cells (pairCs ([97], [122])).toArray 53))
  go_wp2_with (go_at_call 42; refine stopAt ?_)
  unfold Hid
  have ga := apply_any 3 _ _ _ _ (.slice (some ⟨w4.heap.size, 0, none⟩) 1 1) nilV bgQ2 bgK3 _ (HO2.out.reads.all.keepAll HSX.out) (bgF3.toN (by omega)) bgF3.cells (by simp [bgK3]) (by simp [bgQ2]) (row_one (f := pairCs) (fun _ => rfl) (by omega) (Row.new w4 53 (pairCs ([97], [122])))) (RowR.nil_ _ _ _ _ (by simp [maxLen]))
  rw [bgA3] at ga
  obtain ⟨lr, hlr⟩ : ∃ r, r = lockedR ⟨⟨1, 0, 0, 0⟩, 0, ⟨5, 0⟩, false, [120]⟩ := ⟨_, rfl⟩
  rw [← hlr] at ga
  have hle : lr.err = 20 := by rw [hlr]; rfl
  clear hlr
  have Hle := Lib.hid hle
  clear hle
  refine ga.mono ?_
  have HS := Lib.hid (HS.out.trans HSX.out)
  have HP1 := Lib.hid (HP1.out.keep HSX.out trivial)
  have HR1 := Lib.hid (HR1.out.keep HSX.out trivial)
  have HP2 := Lib.hid (HP2.out.keep HSX.out trivial)
  have HR2 := Lib.hid (HR2.out.keep HSX.out trivial)
  have HO2 := Lib.hid (HO2.out.keepAll HSX.out)
  clear p0 p1 p2 p3 p4 p5 p6 p7 p8
  rintro e w5 ⟨vc, vr, vd, vp, rfl, ho, hp, hS⟩
  clear ga HSX
  obtain ⟨A3_0, c3_0, rfl, -, hb0⟩ := ho.cells.form
  obtain ⟨A3_1, c3_1, rfl, -, hb1⟩ := OwnR.form ho.recs
  obtain ⟨A3_2, c3_2, rfl, -, hb2⟩ := OwnR.form ho.done
  obtain ⟨A3_3, c3_3, rfl, -, hb3⟩ := OwnP.form hp
  unfold maxLen at hb0 hb1 hb2 hb3
  have rp := (Row.new w5 77 (partCs (.slice A3_0 bgQ2.cells.length c3_0) (.slice A3_1 bgQ2.recs.length c3_1) (.slice A3_2 bgQ2.done.length c3_2) bgQ2)).keep ((Same.refl (fun _ => True) _).alloc (.cells (repCs (.slice A3_3 lr.pairs.length c3_3) lr).toArray 85)) trivial
  have rr := Row.new (w5.alloc (.cells (partCs (.slice A3_0 bgQ2.cells.length c3_0) (.slice A3_1 bgQ2.recs.length c3_1) (.slice A3_2 bgQ2.done.length c3_2) bgQ2).toArray 77)) 85 (repCs (.slice A3_3 lr.pairs.length c3_3) lr)
  rw [World.size_alloc] at rr
  have hS0 := ((Same.refl (fun _ => True) w5).alloc (.cells (partCs (.slice A3_0 bgQ2.cells.length c3_0) (.slice A3_1 bgQ2.recs.length c3_1) (.slice A3_2 bgQ2.done.length c3_2) bgQ2).toArray 77)).alloc (.cells (repCs (.slice A3_3 lr.pairs.length c3_3) lr).toArray 85)
  go_wp2_with (with_reducible refine stopDst 33 rfl ?_)
  unfold Hid
  simp only [partCs, repCs] at rp rr hS0
  revert rp rr hS0
  generalize (w5.alloc _).alloc _ = w6
  intro rp rr hS0
  have hsv := hS.trans hS0
  have HP1 := Lib.hid (HP1.out.keep hsv trivial)
  have HR1 := Lib.hid (HR1.out.keep hsv trivial)
  have HP2 := Lib.hid (HP2.out.keep hsv trivial)
  have HR2 := Lib.hid (HR2.out.keep hsv trivial)
  have HS := Lib.hid (HS.out.trans hsv)
  have HO2 := Lib.hid (HO2.out.keepAll hsv)
  have HP3 := Lib.hid rp
  have HR3 := Lib.hid rr
  have HO3 := Lib.hid (ho.keepAll hS0)
  have p0 := rp.cell 0
  have p1 := rp.cell 1
  have p2 := rp.cell 2
  have p3 := rp.cell 3
  have p4 := rp.cell 4
  have p5 := rp.cell 5
  have p6 := rp.cell 6
  have p7 := rp.cell 7
  have p8 := rp.cell 8
  simp only [List.getElem?_cons_zero, List.getElem?_cons_succ] at p0 p1 p2 p3 p4 p5 p6 p7 p8
  clear ho hp hS rp rr hS0 hsv
  clear p0 p1 p2 p3 p4 p5 p6 p7 p8
  have k1 : w6.cell? ⟨w1.heap.size + 1, 0, none⟩ = some (.int .i64 0) := HR1.out.cell 0
  have k2 : w6.cell? ⟨w1.heap.size, 1, none⟩ = some (.int .i64 2) := HP1.out.cell 1
  have k3 : w6.cell? ⟨w3.heap.size + 1, 0, none⟩ = some (.int .i64 0) := HR2.out.cell 0
  have k4 : w6.cell? ⟨w5.heap.size + 1, 0, none⟩ = some (.int .i64 20) := by
    rw [← Hle.out]
    exact HR3.out.cell 0
  have hp2 := HP2.out
  have p0 := hp2.cell 0
  have p1 := hp2.cell 1
  have p2 := hp2.cell 2
  have p3 := hp2.cell 3
  have p4 := hp2.cell 4
  have p5 := hp2.cell 5
  have p6 := hp2.cell 6
  have p7 := hp2.cell 7
  have p8 := hp2.cell 8
  simp only [List.getElem?_cons_zero, List.getElem?_cons_succ] at p0 p1 p2 p3 p4 p5 p6 p7 p8
  clear hp2
  go_wp2_with (go_at_call 46; refine stopAt ?_)
  unfold Hid
  refine (pmay_nil _ _ _ bgQ2 _ w6 HO2.out.reads bgF3.cells.good (bgF3.toN (by omega)) rfl rfl (by simp [bgQ2]) (by simp [bgQ2])).mono ?_
  rintro e w7 ⟨rfl, hS⟩
  have HS7 := Lib.hid (HS.out.trans hS)
  clear hS
  go_wp2
  go_ret
  exact ⟨rfl, HS7.out⟩
end Go.Proofs.Ytoldelocfmpccaa
namespace Go.Proofs.Ytoldelocfmpccaa
open Go.RowKit Go.ChangeShapes Go.WideShapes Go.ChangeAt
theorem SlOf.row {P : Program} {e : TypeId} {α : Type} {C : Codec P e α} {f : α → List Value} {n : Nat} {w : World} {S : Nat → Prop} {v : Value} {xs : List α} (hf : ∀ x, (f x).length = n) (hn : 0 < n) (hce : P.cellsOf e = n)
    (hok : ∀ us x, C.ok w S us x → us = f x) (h : SlOf C w S v xs) : RowR f n w S v xs := by
  obtain ⟨A, c, rfl, h2, h3, h4⟩ := h
  refine ⟨A, c, rfl, h2, h3, flat_len f n hf xs, fun h0 => ?_⟩
  have hl : 0 < xs.length := Nat.pos_of_ne_zero fun e => by rw [e] at h0; simp at h0
  obtain ⟨ad, us, rfl, hS, _, _⟩ := h4 0 xs[0] (List.getElem?_eq_getElem hl)
  refine ⟨ad, rfl, hS, fun j u hu => ?_⟩
  have hj : j < xs.length * n := by
    have := (List.getElem?_eq_some_iff.1 hu).1
    rwa [flat_len f n hf xs] at this
  have hi : j / n < xs.length := Nat.div_lt_of_lt_mul (by rw [Nat.mul_comm]; exact hj)
  have hr : j % n < n := Nat.mod_lt _ hn
  have hjd : j / n * n + j % n = j := Nat.div_add_mod' j n
  obtain ⟨ad', us', e1, _, hc, hk⟩ := h4 (j / n) xs[j / n] (List.getElem?_eq_getElem hi)
  injection e1 with e1
  subst e1
  have := hok _ _ hk
  subst this
  have e2 := flat_at f n hf xs (j / n) (j % n) hi hr
  rw [hjd] at e2
  rw [e2] at hu
  have := hc (j % n) u hu
  rwa [hce, hjd] at this
section
variable {w : World} {S : Nat → Prop} {vs : List Value}
end
end Go.Proofs.Ytoldelocfmpccaa
namespace Go.Proofs.Ytoldelocfmpccaa
open Go.RowKit Go.ChangeShapes Go.WideShapes Go.ChangeAt
theorem cSpan_cells : Try.prog.cellsOf 53 = 2 := by kernel_rfl
theorem cWr_cells : Try.prog.cellsOf 24 = 3 := by kernel_rfl
def cSpans : Codec Try.prog 78 (List (List UInt8 × List UInt8)) := cSlice cSpan Try.underlying78 (by rw [cSpan_cells]; omega) (by kernel_rfl)
def cWrs : Codec Try.prog 79 (List Wr) := cSlice cWr Try.underlying79 (by rw [cWr_cells]; omega) (by kernel_rfl)
set_option maxRecDepth 100000 in
def cCmd : Codec Try.prog 81 CmdM :=
  cStruct (fcons 0 1 cI (fcons 1 1 cI (fcons 2 1 cI (fcons 3 1 cI (fcons 4 4 cTry (fcons 8 2 cSt (fcons 10 1 cJ (fcons 11 1 cO (fcons 12 1 cSpans (fcons 13 1 cWrs fnil))))))))))
    (fun x => ⟨x.1, x.2.1, x.2.2.1, x.2.2.2.1, x.2.2.2.2.1, x.2.2.2.2.2.1, x.2.2.2.2.2.2.1, x.2.2.2.2.2.2.2.1, x.2.2.2.2.2.2.2.2.1, x.2.2.2.2.2.2.2.2.2.1⟩) Try.underlying81
theorem cCmd_cells : Try.prog.cellsOf 81 = 14 := by kernel_rfl
/-- Strings of a command that are no longer than may be; numbers that are words. -/
structure CmdL (c : CmdM) : Prop where
  spans : ∀ s ∈ c.spans, s.1.length ≤ maxLen ∧ s.2.length ≤ maxLen
  writes : ∀ x ∈ c.writes, x.key.length ≤ maxLen ∧ x.data.length ≤ maxLen
  epoch : (Lit.int .i64 c.epoch).wf = true
section
variable {w w' : World} {S : Nat → Prop} {vs : List Value}
theorem spans_row {v : Value} {l : List (List UInt8 × List UInt8)} (h : SlOf cSpan w S v l) : SpanR w S v l ∧ ∀ s ∈ l, s.1.length ≤ maxLen ∧ s.2.length ≤ maxLen := by
  refine ⟨h.row (f := pairCs) (fun _ => rfl) (by omega) cSpan_cells fun us x hx => (cSpan_ok hx).1, fun s hs => ?_⟩
  obtain ⟨A, c, _, _, _, h4⟩ := h
  obtain ⟨i, hi, rfl⟩ := List.mem_iff_getElem.1 hs
  obtain ⟨_, us, _, _, _, hk⟩ := h4 i _ (List.getElem?_eq_getElem hi)
  exact (cSpan_ok hk).2
theorem wrs_row {v : Value} {l : List Wr} (h : SlOf cWr w S v l) : WrR w S v l ∧ ∀ x ∈ l, x.key.length ≤ maxLen ∧ x.data.length ≤ maxLen := by
  refine ⟨h.row (f := wrCs) (fun _ => rfl) (by omega) cWr_cells fun us x hx => (cWr_ok hx).1, fun s hs => ?_⟩
  obtain ⟨A, c, _, _, _, h4⟩ := h
  obtain ⟨i, hi, rfl⟩ := List.mem_iff_getElem.1 hs
  obtain ⟨_, us, _, _, _, hk⟩ := h4 i _ (List.getElem?_eq_getElem hi)
  exact (cWr_ok hk).2
theorem cCmd_ok {t : CmdM} (h : cCmd.ok w S vs t) : ∃ vsp vw, vs = cmdCs vsp vw t ∧ SpanR w S vsp t.spans ∧ WrR w S vw t.writes ∧ CmdL t := by
  obtain ⟨hlen, ⟨x0, x1, x2, x3, x4, x5, x6, x7, x8, x9, x10⟩, hx, ⟨h0, -⟩, ⟨h1, k1⟩, ⟨h2, -⟩, ⟨h3, -⟩, h4, h5, ⟨h6, -⟩, h7, ⟨u8, h8, g8⟩, ⟨u9, h9, g9⟩, -⟩ := h
  have hlen : vs.length = 14 := hlen.trans (by kernel_rfl)
  match vs, hlen with
  | [a0, a1, a2, a3, a4, a5, a6, a7, a8, a9, a10, a11, a12, a13], _ =>
    have e4 : [a4, a5, a6, a7] = tryCs x4 := cTry_ok h4
    have e5 : [a8, a9] = stCs x5 := cSt_ok h5
    obtain rfl := (List.cons.inj h0).1
    obtain rfl := (List.cons.inj h1).1
    obtain rfl := (List.cons.inj h2).1
    obtain rfl := (List.cons.inj h3).1
    obtain rfl := (List.cons.inj h6).1
    obtain rfl := (List.cons.inj h7).1
    obtain rfl := (List.cons.inj h8).1
    obtain rfl := (List.cons.inj h9).1
    simp only [tryCs, List.cons.injEq, and_true] at e4
    simp only [stCs, List.cons.injEq, and_true] at e5
    obtain ⟨rfl, rfl, rfl, rfl⟩ := e4
    obtain ⟨rfl, rfl⟩ := e5
    subst hx
    obtain ⟨s1, s2⟩ := spans_row g8
    obtain ⟨s3, s4⟩ := wrs_row g9
    exact ⟨_, _, rfl, s1, s3, s2, s4, k1⟩
end
abbrev CmdsR (w : World) (S : Nat → Prop) (v : Value) (l : List CmdM) : Prop := SlOf cCmd w S v l
/-- Commands that read. -/
def CmdR (w : World) (S : Nat → Prop) (v : Value) (l : List CmdM) : Prop := ∃ A c, v = .slice A l.length c ∧ l.length ≤ c ∧ c ≤ maxLen ∧
  ∀ i (hi : i < l.length), ∃ ad vs vw, A = some ad ∧ S ad.block ∧ SpanR w S vs l[i].spans ∧ WrR w S vw l[i].writes ∧ CmdL l[i] ∧ ∀ j u, (cmdCs vs vw l[i])[j]? = some u → w.cell? ((ad.add (i * 14)).add j) = some u
section
variable {w w' : World} {S S' : Nat → Prop} {v : Value} {l : List CmdM}
theorem CmdR.keep (h : CmdR w S v l) (hs : Same S w w') : CmdR w' S v l := by
  obtain ⟨A, c, h1, h2, h3, h4⟩ := h
  refine ⟨A, c, h1, h2, h3, fun i hi => ?_⟩
  obtain ⟨ad, vs, vw, a1, a2, a3, a4, a5, a6⟩ := h4 i hi
  exact ⟨ad, vs, vw, a1, a2, RowR.keep a3 hs, RowR.keep a4 hs, a5, fun j u hu => hs.cell (by rw [block_of_add, block_of_add]; exact a2) (a6 j u hu)⟩
theorem CmdR.keepAll (h : CmdR w S v l) (hs : Same (fun _ => True) w w') : CmdR w' S v l := h.keep (hs.mono fun _ _ _ => trivial)
theorem CmdR.form (h : CmdR w S v l) : ∃ A c, v = .slice A l.length c ∧ l.length ≤ c ∧ c ≤ maxLen := by
  obtain ⟨A, c, h1, h2, h3, _⟩ := h
  exact ⟨A, c, h1, h2, h3⟩
theorem CmdR.at_ {A : Option Addr} {n c i : Nat} (h : CmdR w S (.slice A n c) l) (hi : i < l.length) :
    ∃ ad vs vw, A = some ad ∧ S ad.block ∧ SpanR w S vs l[i].spans ∧ WrR w S vw l[i].writes ∧ CmdL l[i] ∧ w.cell? (ad.add (i * 14)) = some (.int .i64 l[i].kind) ∧ ∀ j, 0 < j → j < 14 → w.cell? ⟨(ad.add (i * 14)).block, (ad.add (i * 14)).off + j, none⟩ = (cmdCs vs vw l[i])[j]? := by
  obtain ⟨A', c', hv, _, _, he⟩ := h
  injection hv with hA
  subst hA
  obtain ⟨ad, vs, vw, rfl, a2, a3, a4, a5, a6⟩ := he i hi
  refine ⟨ad, vs, vw, rfl, a2, a3, a4, a5, ?_, fun j h0 hj => ?_⟩
  · have := a6 0 _ rfl
    rwa [add_zero] at this
  · have hl : j < (cmdCs vs vw l[i]).length := hj
    have := a6 j _ (List.getElem?_eq_getElem hl)
    rw [addr_add _ j h0] at this
    rw [this, List.getElem?_eq_getElem hl]
theorem CmdsR.cmds (h : CmdsR w S v l) : CmdR w S v l := by
  obtain ⟨A, c, h1, h2, h3, he⟩ := h
  refine ⟨A, c, h1, h2, h3, fun i hi => ?_⟩
  obtain ⟨ad, us, h5, hS, hc, hok⟩ := he i l[i] (List.getElem?_eq_getElem hi)
  obtain ⟨vs, vw, e, k1, k2, k3⟩ := cCmd_ok hok
  subst e
  rw [cCmd_cells] at hc
  exact ⟨ad, vs, vw, h5, hS, k1, k2, k3, fun j u hu => by rw [add_of_add]; exact hc j u hu⟩
theorem cmd_one {g : Nat} {e : TypeId} {vs vw : Value} {c : CmdM} (hr : Row w g e (cmdCs vs vw c)) (hsp : SpanR w S vs c.spans) (hwr : WrR w S vw c.writes) (hl : CmdL c) : CmdR w (fun _ => True) (.slice (some ⟨g, 0, none⟩) 1 1) [c] := by
  refine ⟨_, 1, rfl, Nat.le_refl _, by simp [maxLen], fun i hi => ?_⟩
  obtain rfl : i = 0 := by simpa using hi
  refine ⟨_, vs, vw, rfl, trivial, hsp.mono (by omega) fun _ _ _ => trivial, hwr.mono (by omega) fun _ _ _ => trivial, hl, fun j u hu => ?_⟩
  have h0 : ((⟨g, 0, none⟩ : Addr).add (0 * 14)).add j = ⟨g, j, none⟩ := by
    rw [Nat.zero_mul, add_zero]
    unfold Addr.add
    split
    · rename_i h; subst h; rfl
    · simp
  rw [h0, hr.cell j]
  exact hu
end
section
variable {H : Type} {enc : TypeId × Value → H} {W : World} {base : Nat} {v : Value} {d : DataW H} {ps : List MemPlace}
set_option maxRecDepth 100000 in
theorem open_cmds (hval : Value.okWide Try.prog W .any base 72 v)
    (h : DataW.Trod enc Try.prog W 0 (fun _ => true) true 72 v d ps) : ∃ l, CmdR W (· < W.heap.size) v l := by
  obtain ⟨a0, len0, cap0, rfl⟩ := okWide_slice Try.underlying72 hval
  obtain ⟨fuel, hf⟩ := h
  obtain ⟨v, l, hv, hby⟩ := SlOf.opens (C := cCmd) Try.underlying72 (by rw [cCmd_cells]; omega) hf
  simp [Value.cells] at hv
  subst hv
  exact ⟨l, CmdsR.cmds hby⟩
set_option maxRecDepth 100000 in
theorem open_cmd (hval : Value.okWide Try.prog W .any base 81 v)
    (h : DataW.Trod enc Try.prog W 0 (fun _ => true) true 81 v d ps) : ∃ (t : CmdM) (vs vw : Value), v = cmdV vs vw t ∧ SpanR W (· < W.heap.size) vs t.spans ∧ WrR W (· < W.heap.size) vw t.writes ∧ CmdL t := by
  obtain ⟨t, ht⟩ := cCmd.arg h
  obtain ⟨vs, vw, h1, h2, h3, h4⟩ := cCmd_ok ht
  exact ⟨t, vs, vw, agg_of h1 (by simp [cmdCs]), h2, h3, h4⟩
end
end Go.Proofs.Ytoldelocfmpccaa
namespace Go.Proofs.Ytoldelocfmpccaa
open Go.RowKit
theorem ownp_results {W : World} {k : Nat} {vs vw : Value} {c : CmdM} (R : Row W k 81 (cmdCs vs vw c)) {tmps : Array Value} (h2 : tmps.getD 6 undef = .pointer (some ⟨k, 0, none⟩)) :
    (results Try.f40 tmps).run Try.prog W = .ok (cmdV vs vw c) W := by
  have d0 := R.cell 0
  have d1 := R.cell 1
  have d2 := R.cell 2
  have d3 := R.cell 3
  have d4 := R.cell 4
  have d5 := R.cell 5
  have d6 := R.cell 6
  have d7 := R.cell 7
  have d8 := R.cell 8
  have d9 := R.cell 9
  have d10 := R.cell 10
  have d11 := R.cell 11
  have d12 := R.cell 12
  have d13 := R.cell 13
  simp only [cmdCs, List.getElem?_cons_zero, List.getElem?_cons_succ] at d0 d1 d2 d3 d4 d5 d6 d7 d8 d9 d10 d11 d12 d13
  simp at h2
  simp [results, Try.results40, h2, go_sem, d0, d1, d2, d3, d4, d5, d6, d7, d8, d9, d10, d11, d12, d13]
def CmdM.zero : CmdM := ⟨0, 0, 0, 0, ⟨0, 0, 0, 0⟩, ⟨0, 0⟩, 0, false, [], []⟩
set_option maxRecDepth 100000 in
set_option maxHeartbeats 4000000 in
theorem ownp_any (vc vr vd vs vw : Value) (p : PartM) (c : CmdM) (other : Bool) (w : World) (hc : ∃ A n m, vc = .slice A n m) (hr : ∃ A n m, vr = .slice A n m) (hd : ∃ A n m, vd = .slice A n m) (hvs : ∃ A n m, vs = .slice A n m) (hvw : ∃ A n m, vw = .slice A n m) (he : -9223372036854775808 ≤ p.epoch ∧ p.epoch < 9223372036854775807) :
    Calls Try.prog 40 #[partV vc vr vd p, cmdV vs vw c, .bool other] w fun e w' => e = .returned (cmdV vs vw (ownF p c other)) ∧ Same (fun _ => True) w w' := by
  obtain ⟨Ac, nc, cc, rfl⟩ := hc
  obtain ⟨Ar, nr, cr, rfl⟩ := hr
  obtain ⟨Ad, nd, cd, rfl⟩ := hd
  obtain ⟨As, ns, cs_, rfl⟩ := hvs
  obtain ⟨Aw, nw, cw_, rfl⟩ := hvw
  have r0 := ((Row.new w 77 (partCs (.slice Ac nc cc) (.slice Ar nr cr) (.slice Ad nd cd) p)).keep ((Same.refl (fun _ => True) _).alloc (.cells (cmdCs (.slice As ns cs_) (.slice Aw nw cw_) c).toArray 81)) trivial).keep ((Same.refl (fun _ => True) _).alloc (.cells (cmdCs nilV nilV CmdM.zero).toArray 81)) trivial
  have r1 := (Row.new (w.alloc (.cells (partCs (.slice Ac nc cc) (.slice Ar nr cr) (.slice Ad nd cd) p).toArray 77)) 81 (cmdCs (.slice As ns cs_) (.slice Aw nw cw_) c)).keep ((Same.refl (fun _ => True) _).alloc (.cells (cmdCs nilV nilV CmdM.zero).toArray 81)) trivial
  rw [World.size_alloc] at r1
  have r2 := Row.new ((w.alloc (.cells (partCs (.slice Ac nc cc) (.slice Ar nr cr) (.slice Ad nd cd) p).toArray 77)).alloc (.cells (cmdCs (.slice As ns cs_) (.slice Aw nw cw_) c).toArray 81)) 81 (cmdCs nilV nilV CmdM.zero)
  rw [World.size_alloc, World.size_alloc] at r2
  have hS0 := (((Same.refl (fun _ => True) w).alloc (.cells (partCs (.slice Ac nc cc) (.slice Ar nr cr) (.slice Ad nd cd) p).toArray 77)).alloc (.cells (cmdCs (.slice As ns cs_) (.slice Aw nw cw_) c).toArray 81)).alloc (.cells (cmdCs nilV nilV CmdM.zero).toArray 81)
  have HE := Lib.hid he
  clear he
  go_enter Try.func40, Try.ntmps40
  cases other
  case true =>
    have HL := Lib.hid (show ownF p c true = c from rfl)
    go_wp2_with (with_reducible refine stopDst 19 rfl ?_)
    unfold Hid
    simp only [partCs, cmdCs, CmdM.zero] at r0 r1 r2 hS0
    revert r0 r1 r2 hS0
    generalize ((w.alloc _).alloc _).alloc _ = w1
    intro r0 r1 r2 hS0
    have R0 := Lib.hid r0
    have R1 := Lib.hid r1
    have R2 := Lib.hid r2
    have HS0 := Lib.hid hS0
    clear r0 r1 r2 hS0
    have r0 := R0.out
    have r1 := R1.out
    have r2 := R2.out
    have p0 := r0.cell 0
    have p1 := r0.cell 1
    have p2 := r0.cell 2
    have p3 := r0.cell 3
    have p4 := r0.cell 4
    have p5 := r0.cell 5
    have p6 := r0.cell 6
    have p7 := r0.cell 7
    have p8 := r0.cell 8
    simp only [List.getElem?_cons_zero, List.getElem?_cons_succ] at p0 p1 p2 p3 p4 p5 p6 p7 p8
    have c0 := r1.cell 0
    have c1 := r1.cell 1
    have c2 := r1.cell 2
    have c3 := r1.cell 3
    have c4 := r1.cell 4
    have c5 := r1.cell 5
    have c6 := r1.cell 6
    have c7 := r1.cell 7
    have c8 := r1.cell 8
    have c9 := r1.cell 9
    have c10 := r1.cell 10
    have c11 := r1.cell 11
    have c12 := r1.cell 12
    have c13 := r1.cell 13
    simp only [List.getElem?_cons_zero, List.getElem?_cons_succ] at c0 c1 c2 c3 c4 c5 c6 c7 c8 c9 c10 c11 c12 c13
    have e0 := r2.cell 0
    have e1 := r2.cell 1
    have e2 := r2.cell 2
    have e3 := r2.cell 3
    have e4 := r2.cell 4
    have e5 := r2.cell 5
    have e6 := r2.cell 6
    have e7 := r2.cell 7
    have e8 := r2.cell 8
    have e9 := r2.cell 9
    have e10 := r2.cell 10
    have e11 := r2.cell 11
    have e12 := r2.cell 12
    have e13 := r2.cell 13
    simp only [List.getElem?_cons_zero, List.getElem?_cons_succ] at e0 e1 e2 e3 e4 e5 e6 e7 e8 e9 e10 e11 e12 e13
    have f0 := r1.frozen 0
    have f1 := r1.frozen 1
    have f2 := r1.frozen 2
    have f3 := r1.frozen 3
    have f4 := r1.frozen 4
    have f5 := r1.frozen 5
    have f6 := r1.frozen 6
    have f7 := r1.frozen 7
    have f8 := r1.frozen 8
    have f9 := r1.frozen 9
    have f10 := r1.frozen 10
    have f11 := r1.frozen 11
    have f12 := r1.frozen 12
    have f13 := r1.frozen 13
    have g0 := r2.frozen 0
    have g1 := r2.frozen 1
    have g2 := r2.frozen 2
    have g3 := r2.frozen 3
    have g4 := r2.frozen 4
    have g5 := r2.frozen 5
    have g6 := r2.frozen 6
    have g7 := r2.frozen 7
    have g8 := r2.frozen 8
    have g9 := r2.frozen 9
    have g10 := r2.frozen 10
    have g11 := r2.frozen 11
    have g12 := r2.frozen 12
    have g13 := r2.frozen 13
    have z1 := r1.lt
    have z2 := r2.lt
    clear r0 r1 r2
    go_wp2
    have hq := (HS0.out)
    exact bodyPost_ret (ownp_results (c := c) (vs := .slice As ns cs_) (vw := .slice Aw nw cw_) (show Row _ _ _ (cmdCs (.slice As ns cs_) (.slice Aw nw cw_) (c)) from R2.out.sets (cmdCs (.slice As ns cs_) (.slice Aw nw cw_) (c)) 0) rfl) rfl ⟨by rw [HL.out], Same.sets' (by omega) (cmdCs (.slice As ns cs_) (.slice Aw nw cw_) (c)) 0 HS0.out⟩
  case false =>
    go_wp2_with (with_reducible refine stopDst 10 rfl ?_)
    unfold Hid
    simp only [partCs, cmdCs, CmdM.zero] at r0 r1 r2 hS0
    revert r0 r1 r2 hS0
    generalize ((w.alloc _).alloc _).alloc _ = w1
    intro r0 r1 r2 hS0
    have R0 := Lib.hid r0
    have R1 := Lib.hid r1
    have R2 := Lib.hid r2
    have HS0 := Lib.hid hS0
    clear r0 r1 r2 hS0
    have r0 := R0.out
    have r1 := R1.out
    have r2 := R2.out
    have p0 := r0.cell 0
    have p1 := r0.cell 1
    have p2 := r0.cell 2
    have p3 := r0.cell 3
    have p4 := r0.cell 4
    have p5 := r0.cell 5
    have p6 := r0.cell 6
    have p7 := r0.cell 7
    have p8 := r0.cell 8
    simp only [List.getElem?_cons_zero, List.getElem?_cons_succ] at p0 p1 p2 p3 p4 p5 p6 p7 p8
    have c0 := r1.cell 0
    have c1 := r1.cell 1
    have c2 := r1.cell 2
    have c3 := r1.cell 3
    have c4 := r1.cell 4
    have c5 := r1.cell 5
    have c6 := r1.cell 6
    have c7 := r1.cell 7
    have c8 := r1.cell 8
    have c9 := r1.cell 9
    have c10 := r1.cell 10
    have c11 := r1.cell 11
    have c12 := r1.cell 12
    have c13 := r1.cell 13
    simp only [List.getElem?_cons_zero, List.getElem?_cons_succ] at c0 c1 c2 c3 c4 c5 c6 c7 c8 c9 c10 c11 c12 c13
    have e0 := r2.cell 0
    have e1 := r2.cell 1
    have e2 := r2.cell 2
    have e3 := r2.cell 3
    have e4 := r2.cell 4
    have e5 := r2.cell 5
    have e6 := r2.cell 6
    have e7 := r2.cell 7
    have e8 := r2.cell 8
    have e9 := r2.cell 9
    have e10 := r2.cell 10
    have e11 := r2.cell 11
    have e12 := r2.cell 12
    have e13 := r2.cell 13
    simp only [List.getElem?_cons_zero, List.getElem?_cons_succ] at e0 e1 e2 e3 e4 e5 e6 e7 e8 e9 e10 e11 e12 e13
    have f0 := r1.frozen 0
    have f1 := r1.frozen 1
    have f2 := r1.frozen 2
    have f3 := r1.frozen 3
    have f4 := r1.frozen 4
    have f5 := r1.frozen 5
    have f6 := r1.frozen 6
    have f7 := r1.frozen 7
    have f8 := r1.frozen 8
    have f9 := r1.frozen 9
    have f10 := r1.frozen 10
    have f11 := r1.frozen 11
    have f12 := r1.frozen 12
    have f13 := r1.frozen 13
    have g0 := r2.frozen 0
    have g1 := r2.frozen 1
    have g2 := r2.frozen 2
    have g3 := r2.frozen 3
    have g4 := r2.frozen 4
    have g5 := r2.frozen 5
    have g6 := r2.frozen 6
    have g7 := r2.frozen 7
    have g8 := r2.frozen 8
    have g9 := r2.frozen 9
    have g10 := r2.frozen 10
    have g11 := r2.frozen 11
    have g12 := r2.frozen 12
    have g13 := r2.frozen 13
    have z1 := r1.lt
    have z2 := r2.lt
    clear r0 r1 r2
    go_wp2_with (with_reducible refine stopDst 13 rfl ?_)
    unfold Hid
    have hp5 := R1.out.set_ 1 (.int .i64 p.epoch)
    have hS5 : Same (fun q => q ≠ w.heap.size + 1) w1 (w1.setCell ⟨w.heap.size + 1, 1, none⟩ (.int .i64 p.epoch)) := (Same.refl _ _).setCell (fun _ h => h rfl) _
    clear p0 p1 p2 p3 p4 p5 p6 p7 p8 c0 f0 e0 g0 c1 f1 e1 g1 c2 f2 e2 g2 c3 f3 e3 g3 c4 f4 e4 g4 c5 f5 e5 g5 c6 f6 e6 g6 c7 f7 e7 g7 c8 f8 e8 g8 c9 f9 e9 g9 c10 f10 e10 g10 c11 f11 e11 g11 c12 f12 e12 g12 c13 f13 e13 g13 z1 z2
    have HS0 := Lib.hid (HS0.out.setCell (p := ⟨w.heap.size + 1, 1, none⟩) (fun hp => by have hp : w.heap.size + 1 < w.heap.size := hp; omega) (.int .i64 p.epoch))
    have HS0r := HS0.out
    clear HS0
    revert hp5 hS5 HS0r
    generalize w1.setCell _ _ = w9
    intro hp5 hS5 HS0r
    have HS0 := Lib.hid HS0r
    have R0 := Lib.hid (R0.out.keep hS5 (by omega))
    have R2 := Lib.hid (R2.out.keep hS5 (by omega))
    have R1 := Lib.hid (show Row w9 (w.heap.size + 1) 81 (cmdCs (.slice As ns cs_) (.slice Aw nw cw_) { c with epoch := p.epoch }) from hp5)
    clear hp5 hS5 HS0r
    have r0 := R0.out
    have r1 := R1.out
    unfold cmdCs at r1
    have r2 := R2.out
    have p0 := r0.cell 0
    have p1 := r0.cell 1
    have p2 := r0.cell 2
    have p3 := r0.cell 3
    have p4 := r0.cell 4
    have p5 := r0.cell 5
    have p6 := r0.cell 6
    have p7 := r0.cell 7
    have p8 := r0.cell 8
    simp only [List.getElem?_cons_zero, List.getElem?_cons_succ] at p0 p1 p2 p3 p4 p5 p6 p7 p8
    have c0 := r1.cell 0
    have c1 := r1.cell 1
    have c2 := r1.cell 2
    have c3 := r1.cell 3
    have c4 := r1.cell 4
    have c5 := r1.cell 5
    have c6 := r1.cell 6
    have c7 := r1.cell 7
    have c8 := r1.cell 8
    have c9 := r1.cell 9
    have c10 := r1.cell 10
    have c11 := r1.cell 11
    have c12 := r1.cell 12
    have c13 := r1.cell 13
    simp only [List.getElem?_cons_zero, List.getElem?_cons_succ] at c0 c1 c2 c3 c4 c5 c6 c7 c8 c9 c10 c11 c12 c13
    have e0 := r2.cell 0
    have e1 := r2.cell 1
    have e2 := r2.cell 2
    have e3 := r2.cell 3
    have e4 := r2.cell 4
    have e5 := r2.cell 5
    have e6 := r2.cell 6
    have e7 := r2.cell 7
    have e8 := r2.cell 8
    have e9 := r2.cell 9
    have e10 := r2.cell 10
    have e11 := r2.cell 11
    have e12 := r2.cell 12
    have e13 := r2.cell 13
    simp only [List.getElem?_cons_zero, List.getElem?_cons_succ] at e0 e1 e2 e3 e4 e5 e6 e7 e8 e9 e10 e11 e12 e13
    have f0 := r1.frozen 0
    have f1 := r1.frozen 1
    have f2 := r1.frozen 2
    have f3 := r1.frozen 3
    have f4 := r1.frozen 4
    have f5 := r1.frozen 5
    have f6 := r1.frozen 6
    have f7 := r1.frozen 7
    have f8 := r1.frozen 8
    have f9 := r1.frozen 9
    have f10 := r1.frozen 10
    have f11 := r1.frozen 11
    have f12 := r1.frozen 12
    have f13 := r1.frozen 13
    have g0 := r2.frozen 0
    have g1 := r2.frozen 1
    have g2 := r2.frozen 2
    have g3 := r2.frozen 3
    have g4 := r2.frozen 4
    have g5 := r2.frozen 5
    have g6 := r2.frozen 6
    have g7 := r2.frozen 7
    have g8 := r2.frozen 8
    have g9 := r2.frozen 9
    have g10 := r2.frozen 10
    have g11 := r2.frozen 11
    have g12 := r2.frozen 12
    have g13 := r2.frozen 13
    have z1 := r1.lt
    have z2 := r2.lt
    clear r0 r1 r2
    by_cases hk : c.kind = 1
    · have k1 : (c.kind == 1) = true := by simp [hk]
      have HK := Lib.hid hk
      clear hk
      have he := HE.out
      go_wp2_with (with_reducible refine stopDst 19 rfl ?_)
      unfold Hid
      clear he
      have hp5 := R1.out.set_ 1 (.int .i64 (p.epoch + 1))
      have hS5 : Same (fun q => q ≠ w.heap.size + 1) w9 (w9.setCell ⟨w.heap.size + 1, 1, none⟩ (.int .i64 (p.epoch + 1))) := (Same.refl _ _).setCell (fun _ h => h rfl) _
      clear p0 p1 p2 p3 p4 p5 p6 p7 p8 c0 f0 e0 g0 c1 f1 e1 g1 c2 f2 e2 g2 c3 f3 e3 g3 c4 f4 e4 g4 c5 f5 e5 g5 c6 f6 e6 g6 c7 f7 e7 g7 c8 f8 e8 g8 c9 f9 e9 g9 c10 f10 e10 g10 c11 f11 e11 g11 c12 f12 e12 g12 c13 f13 e13 g13 z1 z2
      have HS0r := HS0.out.setCell (p := ⟨w.heap.size + 1, 1, none⟩) (fun hp => by have hp : w.heap.size + 1 < w.heap.size := hp; omega) (.int .i64 (p.epoch + 1))
      clear HS0
      revert hp5 hS5 HS0r
      generalize w9.setCell _ _ = wa
      intro hp5 hS5 HS0r
      have HS0 := Lib.hid HS0r
      have R0 := Lib.hid (R0.out.keep hS5 (by omega))
      have R2 := Lib.hid (R2.out.keep hS5 (by omega))
      have R1 := Lib.hid (show Row wa (w.heap.size + 1) 81 (cmdCs (.slice As ns cs_) (.slice Aw nw cw_) { c with epoch := p.epoch + 1 }) from hp5)
      clear hp5 hS5 HS0r
      have HL := Lib.hid (show ownF p c false = { c with epoch := p.epoch + 1 } by
        unfold ownF
        rw [if_neg (by simp), if_pos HK.out])
      have r0 := R0.out
      have r1 := R1.out
      unfold cmdCs at r1
      have r2 := R2.out
      have p0 := r0.cell 0
      have p1 := r0.cell 1
      have p2 := r0.cell 2
      have p3 := r0.cell 3
      have p4 := r0.cell 4
      have p5 := r0.cell 5
      have p6 := r0.cell 6
      have p7 := r0.cell 7
      have p8 := r0.cell 8
      simp only [List.getElem?_cons_zero, List.getElem?_cons_succ] at p0 p1 p2 p3 p4 p5 p6 p7 p8
      have c0 := r1.cell 0
      have c1 := r1.cell 1
      have c2 := r1.cell 2
      have c3 := r1.cell 3
      have c4 := r1.cell 4
      have c5 := r1.cell 5
      have c6 := r1.cell 6
      have c7 := r1.cell 7
      have c8 := r1.cell 8
      have c9 := r1.cell 9
      have c10 := r1.cell 10
      have c11 := r1.cell 11
      have c12 := r1.cell 12
      have c13 := r1.cell 13
      simp only [List.getElem?_cons_zero, List.getElem?_cons_succ] at c0 c1 c2 c3 c4 c5 c6 c7 c8 c9 c10 c11 c12 c13
      have e0 := r2.cell 0
      have e1 := r2.cell 1
      have e2 := r2.cell 2
      have e3 := r2.cell 3
      have e4 := r2.cell 4
      have e5 := r2.cell 5
      have e6 := r2.cell 6
      have e7 := r2.cell 7
      have e8 := r2.cell 8
      have e9 := r2.cell 9
      have e10 := r2.cell 10
      have e11 := r2.cell 11
      have e12 := r2.cell 12
      have e13 := r2.cell 13
      simp only [List.getElem?_cons_zero, List.getElem?_cons_succ] at e0 e1 e2 e3 e4 e5 e6 e7 e8 e9 e10 e11 e12 e13
      have f0 := r1.frozen 0
      have f1 := r1.frozen 1
      have f2 := r1.frozen 2
      have f3 := r1.frozen 3
      have f4 := r1.frozen 4
      have f5 := r1.frozen 5
      have f6 := r1.frozen 6
      have f7 := r1.frozen 7
      have f8 := r1.frozen 8
      have f9 := r1.frozen 9
      have f10 := r1.frozen 10
      have f11 := r1.frozen 11
      have f12 := r1.frozen 12
      have f13 := r1.frozen 13
      have g0 := r2.frozen 0
      have g1 := r2.frozen 1
      have g2 := r2.frozen 2
      have g3 := r2.frozen 3
      have g4 := r2.frozen 4
      have g5 := r2.frozen 5
      have g6 := r2.frozen 6
      have g7 := r2.frozen 7
      have g8 := r2.frozen 8
      have g9 := r2.frozen 9
      have g10 := r2.frozen 10
      have g11 := r2.frozen 11
      have g12 := r2.frozen 12
      have g13 := r2.frozen 13
      have z1 := r1.lt
      have z2 := r2.lt
      clear r0 r1 r2
      go_wp2
      have hq := (HS0.out)
      exact bodyPost_ret (ownp_results (c := { c with epoch := p.epoch + 1 }) (vs := .slice As ns cs_) (vw := .slice Aw nw cw_) (show Row _ _ _ (cmdCs (.slice As ns cs_) (.slice Aw nw cw_) ({ c with epoch := p.epoch + 1 })) from R2.out.sets (cmdCs (.slice As ns cs_) (.slice Aw nw cw_) ({ c with epoch := p.epoch + 1 })) 0) rfl) rfl ⟨by rw [HL.out], Same.sets' (by omega) (cmdCs (.slice As ns cs_) (.slice Aw nw cw_) ({ c with epoch := p.epoch + 1 })) 0 HS0.out⟩
    · have k1 : (c.kind == 1) = false := by simp; omega
      have HL := Lib.hid (show ownF p c false = { c with epoch := p.epoch } by
        unfold ownF
        rw [if_neg (by simp), if_neg hk])
      clear hk
      go_wp2
      have hq := (HS0.out)
      exact bodyPost_ret (ownp_results (c := { c with epoch := p.epoch }) (vs := .slice As ns cs_) (vw := .slice Aw nw cw_) (show Row _ _ _ (cmdCs (.slice As ns cs_) (.slice Aw nw cw_) ({ c with epoch := p.epoch })) from R2.out.sets (cmdCs (.slice As ns cs_) (.slice Aw nw cw_) ({ c with epoch := p.epoch })) 0) rfl) rfl ⟨by rw [HL.out], Same.sets' (by omega) (cmdCs (.slice As ns cs_) (.slice Aw nw cw_) ({ c with epoch := p.epoch })) 0 HS0.out⟩
/-- The states of a run. -/
def statesF (l : List CmdM) (k : Nat) : List PartM := (List.range (k + 1)).map fun j => runP (l.take j)
theorem states_len (l : List CmdM) (k : Nat) : (statesF l k).length = k + 1 := by simp [statesF]
theorem states_at (l : List CmdM) {k j : Nat} (h : j < (statesF l k).length) : (statesF l k)[j] = runP (l.take j) := by simp [statesF]
theorem states_step (l : List CmdM) (k : Nat) : statesF l (k + 1) = statesF l k ++ [runP (l.take (k + 1))] := by
  unfold statesF
  rw [List.range_succ, List.map_append]
  rfl
def RunP (l : List CmdM) (w : World) (e : Ending) (w' : World) : Prop := ∃ v, e = .returned v ∧ PartsO w' w.heap.size v (statesF l l.length) ∧ Same (fun _ => True) w w'
set_option maxRecDepth 100000 in
set_option maxHeartbeats 8000000 in
theorem run_any (v : Value) (l : List CmdM) (S : Nat → Prop) (w : World) (hv : CmdR w S v l) (hlen : l.length ≤ 60) (hl : ∀ c ∈ l, c.writes.length ≤ 99) :
    Calls Try.prog 51 #[v] w (RunP l w) := by
  obtain ⟨A, cl, rfl, hc, hm⟩ := hv.form
  have Hv := Lib.hid hv
  have Hl := Lib.hid hl
  unfold maxLen at hm
  clear hv hl
  have r0 := Row.new w 77 zeroPart
  have hS0 := (Same.refl (fun _ => True) w).alloc (.cells zeroPart.toArray 77)
  go_enter Try.func51, Try.ntmps51
  go_wp2
  simp only [zeroPart] at r0 hS0
  revert r0 hS0
  generalize w.alloc _ = w1
  intro r0 hS0
  have HP0 := Lib.hid (parts_one (q := PartM.zero) (vc := nilV) (vr := nilV) (vd := nilV) (B := w.heap.size) r0 ⟨OwnC.nil _ _, OwnR.nil _ _, OwnR.nil _ _, fun k h => by cases h⟩ (Nat.le_refl _))
  have HS0 := Lib.hid hS0
  clear r0 hS0
  go_loopw [3, 4] (fun v i wr => ∃ k : Nat, i = .int .i64 k ∧ k ≤ l.length ∧ PartsO wr w.heap.size v (statesF l k) ∧ Same (fun _ => True) w wr) (fun _ i _ => l.length - (intOf i).toNat)
  case atStart => exact ⟨0, rfl, Nat.zero_le _, HP0.out, HS0.out⟩
  case round =>
    obtain ⟨k, rfl, hk, hps, hS⟩ := hrel
    clear HP0 HS0
    obtain ⟨Ap, cp, rfl, hp1, hp2⟩ := hps.form
    rw [states_len] at hps hp1 ⊢
    have HPS := Lib.hid hps
    have HS := Lib.hid hS
    unfold maxLen at hp2
    by_cases hlt : k < l.length
    · have hw := Hl.out l[k] (List.getElem_mem hlt)
      have Hf := Lib.hid (fine_run Hl.out k (by omega))
      obtain ⟨ad, vs, vw, rfl, -, hsp, hwr, hcl, c0, hcs⟩ := CmdR.at_ (Hv.out.keepAll hS) hlt
      obtain ⟨ap, vc, vr, vd, rfl, hown, p0, hps0⟩ := PartsO.at_ hps (i := k) (by rw [states_len]; omega)
      rw [states_at] at hown p0 hps0
      have Hst := Lib.hid (runP_step hlt)
      have hfe := (run_epoch (l := l) k (by omega))
      generalize l[k] = c at *
      generalize runP (l.take k) = p at *
      obtain ⟨As, cs_, rfl, hs1, hs2⟩ := SpanR.form hsp
      obtain ⟨Aw, cw_, rfl, hw1, hw2⟩ := WrR.form hwr
      obtain ⟨Ac, cc, rfl, hc1, hc2⟩ := hown.cells.form
      obtain ⟨Ar, cr, rfl, hr1, hr2⟩ := OwnR.form hown.recs
      obtain ⟨Ad, cd, rfl, hd1, hd2⟩ := OwnR.form hown.done
      have x1 : (0 : Int) ≤ (k : Int) := by omega
      have x2 : (k : Int) < (l.length : Int) := by omega
      have x3 : ((k + 1 : Nat) : Int) - 1 = (k : Int) := by omega
      have x4 : (k : Int) < ((k + 1 : Nat) : Int) := by omega
      have p1 := hps0 1 (by omega) (by omega)
      have p2 := hps0 2 (by omega) (by omega)
      have p3 := hps0 3 (by omega) (by omega)
      have p4 := hps0 4 (by omega) (by omega)
      have p5 := hps0 5 (by omega) (by omega)
      have p6 := hps0 6 (by omega) (by omega)
      have p7 := hps0 7 (by omega) (by omega)
      have p8 := hps0 8 (by omega) (by omega)
      have c1 := hcs 1 (by omega) (by omega)
      have c2 := hcs 2 (by omega) (by omega)
      have c3 := hcs 3 (by omega) (by omega)
      have c4 := hcs 4 (by omega) (by omega)
      have c5 := hcs 5 (by omega) (by omega)
      have c6 := hcs 6 (by omega) (by omega)
      have c7 := hcs 7 (by omega) (by omega)
      have c8 := hcs 8 (by omega) (by omega)
      have c9 := hcs 9 (by omega) (by omega)
      have c10 := hcs 10 (by omega) (by omega)
      have c11 := hcs 11 (by omega) (by omega)
      have c12 := hcs 12 (by omega) (by omega)
      have c13 := hcs 13 (by omega) (by omega)
      simp only [partCs, cmdCs, List.getElem?_cons_zero, List.getElem?_cons_succ] at p1 p2 p3 p4 p5 p6 p7 p8 c1 c2 c3 c4 c5 c6 c7 c8 c9 c10 c11 c12 c13
      have Hsp := Lib.hid hsp
      have Hwr := Lib.hid hwr
      have Hown := Lib.hid hown
      unfold maxLen at hs2 hw2 hc2 hr2 hd2
      clear hps hS hsp hwr hown hcl hps0 hcs
      have g0 := Row.new wr 77 (partCs (.slice Ac p.cells.length cc) (.slice Ar p.recs.length cr) (.slice Ad p.done.length cd) p)
      have gS := (Same.refl (fun _ => True) wr).alloc (.cells (partCs (.slice Ac p.cells.length cc) (.slice Ar p.recs.length cr) (.slice Ad p.done.length cd) p).toArray 77)
      go_wp2
      simp only [partCs] at g0 gS
      revert g0 gS
      generalize wr.alloc _ = w2
      intro g0 gS
      have c0 := gS.cell (p := (ad.add (k * 14))) trivial c0
      have c1 := gS.cell (p := ⟨(ad.add (k * 14)).block, (ad.add (k * 14)).off + 1, none⟩) trivial c1
      have c2 := gS.cell (p := ⟨(ad.add (k * 14)).block, (ad.add (k * 14)).off + 2, none⟩) trivial c2
      have c3 := gS.cell (p := ⟨(ad.add (k * 14)).block, (ad.add (k * 14)).off + 3, none⟩) trivial c3
      have c4 := gS.cell (p := ⟨(ad.add (k * 14)).block, (ad.add (k * 14)).off + 4, none⟩) trivial c4
      have c5 := gS.cell (p := ⟨(ad.add (k * 14)).block, (ad.add (k * 14)).off + 5, none⟩) trivial c5
      have c6 := gS.cell (p := ⟨(ad.add (k * 14)).block, (ad.add (k * 14)).off + 6, none⟩) trivial c6
      have c7 := gS.cell (p := ⟨(ad.add (k * 14)).block, (ad.add (k * 14)).off + 7, none⟩) trivial c7
      have c8 := gS.cell (p := ⟨(ad.add (k * 14)).block, (ad.add (k * 14)).off + 8, none⟩) trivial c8
      have c9 := gS.cell (p := ⟨(ad.add (k * 14)).block, (ad.add (k * 14)).off + 9, none⟩) trivial c9
      have c10 := gS.cell (p := ⟨(ad.add (k * 14)).block, (ad.add (k * 14)).off + 10, none⟩) trivial c10
      have c11 := gS.cell (p := ⟨(ad.add (k * 14)).block, (ad.add (k * 14)).off + 11, none⟩) trivial c11
      have c12 := gS.cell (p := ⟨(ad.add (k * 14)).block, (ad.add (k * 14)).off + 12, none⟩) trivial c12
      have c13 := gS.cell (p := ⟨(ad.add (k * 14)).block, (ad.add (k * 14)).off + 13, none⟩) trivial c13
      clear p0 p1 p2 p3 p4 p5 p6 p7 p8
      have p0 := g0.cell 0
      have p1 := g0.cell 1
      have p2 := g0.cell 2
      have p3 := g0.cell 3
      have p4 := g0.cell 4
      have p5 := g0.cell 5
      have p6 := g0.cell 6
      have p7 := g0.cell 7
      have p8 := g0.cell 8
      simp only [List.getElem?_cons_zero, List.getElem?_cons_succ] at p0 p1 p2 p3 p4 p5 p6 p7 p8
      have HS2 := Lib.hid (HS.out.trans gS)
      have HPS := Lib.hid (HPS.out.keepAll gS)
      have hep : -9223372036854775808 ≤ p.epoch ∧ p.epoch < 9223372036854775807 := by omega
      obtain ⟨Q, R, hQR⟩ : ∃ Q R, applyF p (ownF p c false) = (Q, R) := ⟨_, _, rfl⟩
      have hQ : stepF p c = Q := by unfold stepF; rw [hQR]
      have hst : runP (l.take (k + 1)) = Q := Hst.out.trans hQ
      have Hst := Lib.hid hst
      have ga := fun W (hW : Same (fun _ => True) w2 W) => apply_any (100 * k) (fun _ => True) (.slice Ac p.cells.length cc) (.slice Ar p.recs.length cr) (.slice Ad p.done.length cd) (.slice As c.spans.length cs_) (.slice Aw c.writes.length cw_) p (ownF p c false) W ((Hown.out.reads.all.keepAll gS).keepAll hW) (Hf.out.toN (by omega)) Hf.out.cells (by show 100 * k + c.writes.length ≤ 100000; omega) (by omega) ((RowR.mono Hsp.out (by omega) fun _ _ _ => trivial).keepAll (gS.trans hW)) ((RowR.mono Hwr.out (by omega) fun _ _ _ => trivial).keepAll (gS.trans hW))
      simp only [hQR] at ga
      clear g0 gS hQR hQ hst
      go_cut [6, 7] from 10 to 36 (fun v6 v7 wx => ∃ g vc9 vr9 vd9, v6 = .pointer (some ⟨g, 0, none⟩) ∧ w2.heap.size ≤ g ∧ Row wx g 77 (partCs vc9 vr9 vd9 Q) ∧ OwnPart wx w2.heap.size vc9 vr9 vd9 Q ∧ Same (fun _ => True) w2 wx)
      case first =>
        refine wp_region_tail_d (L := [.eq (partV (.slice Ac p.cells.length cc) (.slice Ar p.recs.length cr) (.slice Ad p.done.length cd) p), .eq (partV (.slice Ac p.cells.length cc) (.slice Ar p.recs.length cr) (.slice Ad p.done.length cd) p), .eq (.slice (some ad) l.length cl), .eq (.int .i64 k), .eq (.pointer (some (ad.add (k * 14)))), .eq (cmdV (.slice As c.spans.length cs_) (.slice Aw c.writes.length cw_) c), .eq (cmdV (.slice As c.spans.length cs_) (.slice Aw c.writes.length cw_) (ownF p c false)), .of ⟨fun v w => ∃ vc vr vd vp, v = .tuple #[partV vc vr vd Q, repV vp R] ∧ OwnPart w w2.heap.size vc vr vd Q ∧ OwnP w w2.heap.size vp R.pairs, fun _ _ _ ⟨vc, vr, vd, vp, h1, h2, h3⟩ k => ⟨vc, vr, vd, vp, h1, h2.keepAll k, h3.keepAll k⟩⟩, .of ⟨fun v w => ∃ vc vr vd vp, v = .tuple #[partV vc vr vd Q, repV vp R] ∧ OwnPart w w2.heap.size vc vr vd Q ∧ OwnP w w2.heap.size vp R.pairs, fun _ _ _ ⟨vc, vr, vd, vp, h1, h2, h3⟩ k => ⟨vc, vr, vd, vp, h1, h2.keepAll k, h3.keepAll k⟩⟩, .of ⟨fun v w => ∃ vc vr vd, v = partV vc vr vd Q ∧ OwnPart w w2.heap.size vc vr vd Q, fun _ _ _ ⟨vc, vr, vd, h1, h2⟩ k => ⟨vc, vr, vd, h1, h2.keepAll k⟩⟩, .of ⟨fun v w => ∃ vp, v = repV vp R ∧ OwnP w w2.heap.size vp R.pairs, fun _ _ _ ⟨vp, h1, h2⟩ k => ⟨vp, h1, h2.keepAll k⟩⟩, .of ⟨fun v w => ∃ g, v = .pointer (some ⟨g, 0, none⟩) ∧ w2.heap.size ≤ g ∧ Row w g 77 zeroPart, fun _ _ _ ⟨g, h1, h2, h3⟩ k => ⟨g, h1, h2, h3.keep k trivial⟩⟩, .of ⟨fun v w => ∃ g, v = .pointer (some ⟨g, 0, none⟩) ∧ w2.heap.size ≤ g ∧ Row w g 85 (repCs nilV ReplyM.zero), fun _ _ _ ⟨g, h1, h2, h3⟩ k => ⟨g, h1, h2, h3.keep k trivial⟩⟩]) 13 10 (by omega) (by kernel_rfl) (by kernel_rfl) rfl rfl rfl rfl rfl rfl ?_ ?_ ?_
        · refine ⟨?_, ?_, ?_, ?_, ?_, ?_, ?_, ?_, ?_, ?_, ?_, ?_, ?_, trivial⟩
          · intro ac wc hs hd hz hf hw K hK
            have e0 : ac.eval (.tmp 5) = (.pointer (some ⟨wr.heap.size, 0, none⟩)) := hf 5 rfl
            have m0 : wc.cell? ⟨wr.heap.size, 0, none⟩ = some (.int .i64 p.epoch) := hs.cell (p := ⟨wr.heap.size, 0, none⟩) trivial p0
            have m1 : wc.cell? ⟨wr.heap.size, 1, none⟩ = some (.int .i64 p.holder) := hs.cell (p := ⟨wr.heap.size, 1, none⟩) trivial p1
            have m2 : wc.cell? ⟨wr.heap.size, 2, none⟩ = some (.int .i64 p.floor.wall) := hs.cell (p := ⟨wr.heap.size, 2, none⟩) trivial p2
            have m3 : wc.cell? ⟨wr.heap.size, 3, none⟩ = some (.int .i64 p.floor.tie) := hs.cell (p := ⟨wr.heap.size, 3, none⟩) trivial p3
            have m4 : wc.cell? ⟨wr.heap.size, 4, none⟩ = some (.int .i64 p.closed) := hs.cell (p := ⟨wr.heap.size, 4, none⟩) trivial p4
            have m5 : wc.cell? ⟨wr.heap.size, 5, none⟩ = some (.int .i64 p.low) := hs.cell (p := ⟨wr.heap.size, 5, none⟩) trivial p5
            have m6 : wc.cell? ⟨wr.heap.size, 6, none⟩ = some (.slice Ac p.cells.length cc) := hs.cell (p := ⟨wr.heap.size, 6, none⟩) trivial p6
            have m7 : wc.cell? ⟨wr.heap.size, 7, none⟩ = some (.slice Ar p.recs.length cr) := hs.cell (p := ⟨wr.heap.size, 7, none⟩) trivial p7
            have m8 : wc.cell? ⟨wr.heap.size, 8, none⟩ = some (.slice Ad p.done.length cd) := hs.cell (p := ⟨wr.heap.size, 8, none⟩) trivial p8
            clear hd hz hf hw
            simp only [Region.wanted, if_true, Oper.wp, execOp, resolve, List.map_toArray, List.map_cons, List.map_nil, Option.map_some, Option.map_none, e0]
            go_simp
            exact hK _ _ rfl (Same.refl _ _)
          · intro ac wc hs hd hz hf hw K hK
            have e0 : ac.eval (.tmp 5) = (.pointer (some ⟨wr.heap.size, 0, none⟩)) := hf 5 rfl
            have m0 : wc.cell? ⟨wr.heap.size, 0, none⟩ = some (.int .i64 p.epoch) := hs.cell (p := ⟨wr.heap.size, 0, none⟩) trivial p0
            have m1 : wc.cell? ⟨wr.heap.size, 1, none⟩ = some (.int .i64 p.holder) := hs.cell (p := ⟨wr.heap.size, 1, none⟩) trivial p1
            have m2 : wc.cell? ⟨wr.heap.size, 2, none⟩ = some (.int .i64 p.floor.wall) := hs.cell (p := ⟨wr.heap.size, 2, none⟩) trivial p2
            have m3 : wc.cell? ⟨wr.heap.size, 3, none⟩ = some (.int .i64 p.floor.tie) := hs.cell (p := ⟨wr.heap.size, 3, none⟩) trivial p3
            have m4 : wc.cell? ⟨wr.heap.size, 4, none⟩ = some (.int .i64 p.closed) := hs.cell (p := ⟨wr.heap.size, 4, none⟩) trivial p4
            have m5 : wc.cell? ⟨wr.heap.size, 5, none⟩ = some (.int .i64 p.low) := hs.cell (p := ⟨wr.heap.size, 5, none⟩) trivial p5
            have m6 : wc.cell? ⟨wr.heap.size, 6, none⟩ = some (.slice Ac p.cells.length cc) := hs.cell (p := ⟨wr.heap.size, 6, none⟩) trivial p6
            have m7 : wc.cell? ⟨wr.heap.size, 7, none⟩ = some (.slice Ar p.recs.length cr) := hs.cell (p := ⟨wr.heap.size, 7, none⟩) trivial p7
            have m8 : wc.cell? ⟨wr.heap.size, 8, none⟩ = some (.slice Ad p.done.length cd) := hs.cell (p := ⟨wr.heap.size, 8, none⟩) trivial p8
            clear hd hz hf hw
            simp only [Region.wanted, if_true, Oper.wp, execOp, resolve, List.map_toArray, List.map_cons, List.map_nil, Option.map_some, Option.map_none, e0]
            go_simp
            exact hK _ _ rfl (Same.refl _ _)
          · intro ac wc hs hd hz hf hw K hK
            have e0 : ac.eval (.tmp 0) = (.slice (some ad) l.length cl) := hf 0 rfl
            clear hd hz hf hw
            simp only [Region.wanted, if_true, Oper.wp, execOp, resolve, List.map_toArray, List.map_cons, List.map_nil, Option.map_some, Option.map_none, e0]
            go_simp
            exact hK _ _ rfl (Same.refl _ _)
          · intro ac wc hs hd hz hf hw K hK
            have e0 : ac.eval (.tmp 4) = (.int .i64 k) := hf 4 rfl
            clear hd hz hf hw
            simp only [Region.wanted, if_true, Oper.wp, execOp, resolve, List.map_toArray, List.map_cons, List.map_nil, Option.map_some, Option.map_none, e0]
            go_simp
            exact hK _ _ rfl (Same.refl _ _)
          · intro ac wc hs hd hz hf hw K hK
            have e0 : ac.eval (.tmp 25) = (.slice (some ad) l.length cl) := hw 2 rfl
            have e1 : ac.eval (.tmp 26) = (.int .i64 k) := hw 3 rfl
            clear hd hz hf hw
            simp only [Region.wanted, if_true, Oper.wp, execOp, resolve, List.map_toArray, List.map_cons, List.map_nil, Option.map_some, Option.map_none, e0, e1]
            go_simp
            exact hK _ _ rfl (Same.refl _ _)
          · intro ac wc hs hd hz hf hw K hK
            have e0 : ac.eval (.tmp 27) = (.pointer (some (ad.add (k * 14)))) := hw 4 rfl
            have m0 : wc.cell? (ad.add (k * 14)) = some (.int .i64 c.kind) := hs.cell (p := (ad.add (k * 14))) trivial c0
            have m1 : wc.cell? ⟨(ad.add (k * 14)).block, (ad.add (k * 14)).off + 1, none⟩ = some (.int .i64 c.epoch) := hs.cell (p := ⟨(ad.add (k * 14)).block, (ad.add (k * 14)).off + 1, none⟩) trivial c1
            have m2 : wc.cell? ⟨(ad.add (k * 14)).block, (ad.add (k * 14)).off + 2, none⟩ = some (.int .i64 c.node) := hs.cell (p := ⟨(ad.add (k * 14)).block, (ad.add (k * 14)).off + 2, none⟩) trivial c2
            have m3 : wc.cell? ⟨(ad.add (k * 14)).block, (ad.add (k * 14)).off + 3, none⟩ = some (.int .i64 c.home) := hs.cell (p := ⟨(ad.add (k * 14)).block, (ad.add (k * 14)).off + 3, none⟩) trivial c3
            have m4 : wc.cell? ⟨(ad.add (k * 14)).block, (ad.add (k * 14)).off + 4, none⟩ = some (.int .i64 c.by_.node) := hs.cell (p := ⟨(ad.add (k * 14)).block, (ad.add (k * 14)).off + 4, none⟩) trivial c4
            have m5 : wc.cell? ⟨(ad.add (k * 14)).block, (ad.add (k * 14)).off + 5, none⟩ = some (.int .i64 c.by_.life) := hs.cell (p := ⟨(ad.add (k * 14)).block, (ad.add (k * 14)).off + 5, none⟩) trivial c5
            have m6 : wc.cell? ⟨(ad.add (k * 14)).block, (ad.add (k * 14)).off + 6, none⟩ = some (.int .i64 c.by_.seq) := hs.cell (p := ⟨(ad.add (k * 14)).block, (ad.add (k * 14)).off + 6, none⟩) trivial c6
            have m7 : wc.cell? ⟨(ad.add (k * 14)).block, (ad.add (k * 14)).off + 7, none⟩ = some (.int .i64 c.by_.attempt) := hs.cell (p := ⟨(ad.add (k * 14)).block, (ad.add (k * 14)).off + 7, none⟩) trivial c7
            have m8 : wc.cell? ⟨(ad.add (k * 14)).block, (ad.add (k * 14)).off + 8, none⟩ = some (.int .i64 c.at_.wall) := hs.cell (p := ⟨(ad.add (k * 14)).block, (ad.add (k * 14)).off + 8, none⟩) trivial c8
            have m9 : wc.cell? ⟨(ad.add (k * 14)).block, (ad.add (k * 14)).off + 9, none⟩ = some (.int .i64 c.at_.tie) := hs.cell (p := ⟨(ad.add (k * 14)).block, (ad.add (k * 14)).off + 9, none⟩) trivial c9
            have m10 : wc.cell? ⟨(ad.add (k * 14)).block, (ad.add (k * 14)).off + 10, none⟩ = some (.int .i64 c.wall) := hs.cell (p := ⟨(ad.add (k * 14)).block, (ad.add (k * 14)).off + 10, none⟩) trivial c10
            have m11 : wc.cell? ⟨(ad.add (k * 14)).block, (ad.add (k * 14)).off + 11, none⟩ = some (.bool c.yes) := hs.cell (p := ⟨(ad.add (k * 14)).block, (ad.add (k * 14)).off + 11, none⟩) trivial c11
            have m12 : wc.cell? ⟨(ad.add (k * 14)).block, (ad.add (k * 14)).off + 12, none⟩ = some (.slice As c.spans.length cs_) := hs.cell (p := ⟨(ad.add (k * 14)).block, (ad.add (k * 14)).off + 12, none⟩) trivial c12
            have m13 : wc.cell? ⟨(ad.add (k * 14)).block, (ad.add (k * 14)).off + 13, none⟩ = some (.slice Aw c.writes.length cw_) := hs.cell (p := ⟨(ad.add (k * 14)).block, (ad.add (k * 14)).off + 13, none⟩) trivial c13
            clear hd hz hf hw
            simp only [Region.wanted, if_true, Oper.wp, execOp, resolve, List.map_toArray, List.map_cons, List.map_nil, Option.map_some, Option.map_none, e0]
            go_simp
            exact hK _ _ rfl (Same.refl _ _)
          · intro ac wc hs hd hz hf hw K hK
            have e0 : ac.eval (.tmp 24) = (partV (.slice Ac p.cells.length cc) (.slice Ar p.recs.length cr) (.slice Ad p.done.length cd) p) := hw 1 rfl
            have e1 : ac.eval (.tmp 28) = (cmdV (.slice As c.spans.length cs_) (.slice Aw c.writes.length cw_) c) := hw 5 rfl
            clear hd hz hf hw
            simp only [Region.wanted, if_true, Oper.wp, execOp, resolve, List.map_toArray, List.map_cons, List.map_nil, Option.map_some, Option.map_none, e0, e1]
            go_simp
            refine (ownp_any _ _ _ _ _ p c false wc ⟨_, _, _, rfl⟩ ⟨_, _, _, rfl⟩ ⟨_, _, _, rfl⟩ ⟨_, _, _, rfl⟩ ⟨_, _, _, rfl⟩ hep).mono ?_
            rintro e wd ⟨rfl, hs2⟩
            exact hK _ _ rfl hs2
          · intro ac wc hs hd hz hf hw K hK
            have e0 : ac.eval (.tmp 23) = (partV (.slice Ac p.cells.length cc) (.slice Ar p.recs.length cr) (.slice Ad p.done.length cd) p) := hw 0 rfl
            have e1 : ac.eval (.tmp 29) = (cmdV (.slice As c.spans.length cs_) (.slice Aw c.writes.length cw_) (ownF p c false)) := hw 6 rfl
            clear hd hz hf hw
            simp only [Region.wanted, if_true, Oper.wp, execOp, resolve, List.map_toArray, List.map_cons, List.map_nil, Option.map_some, Option.map_none, e0, e1]
            go_simp
            refine (ga wc hs).mono ?_
            rintro e wd ⟨vc9, vr9, vd9, vp9, rfl, ho9, hp9, hs9⟩
            exact hK _ _ ⟨vc9, vr9, vd9, vp9, rfl, ho9.lower hs.size, hp9.lower hs.size⟩ hs9
          · intro ac wc hs hd hz hf hw K hK
            have p0 : (⟨fun v w => ∃ vc vr vd vp, v = .tuple #[partV vc vr vd Q, repV vp R] ∧ OwnPart w w2.heap.size vc vr vd Q ∧ OwnP w w2.heap.size vp R.pairs, fun _ _ _ ⟨vc, vr, vd, vp, h1, h2, h3⟩ k => ⟨vc, vr, vd, vp, h1, h2.keepAll k, h3.keepAll k⟩⟩ : SP).p (ac.eval (.tmp 30)) wc := hw 7 rfl
            obtain ⟨u0, e0⟩ : ∃ u, ac.eval (.tmp 30) = u := ⟨_, rfl⟩
            rw [e0] at p0
            clear hd hz hf hw
            simp only [Region.wanted, if_true, Oper.wp, execOp, resolve, List.map_toArray, List.map_cons, List.map_nil, Option.map_some, Option.map_none, e0]
            go_simp
            exact hK _ _ p0 (Same.refl _ _)
          · intro ac wc hs hd hz hf hw K hK
            have p0 : (⟨fun v w => ∃ vc vr vd vp, v = .tuple #[partV vc vr vd Q, repV vp R] ∧ OwnPart w w2.heap.size vc vr vd Q ∧ OwnP w w2.heap.size vp R.pairs, fun _ _ _ ⟨vc, vr, vd, vp, h1, h2, h3⟩ k => ⟨vc, vr, vd, vp, h1, h2.keepAll k, h3.keepAll k⟩⟩ : SP).p (ac.eval (.tmp 22)) wc := hw 8 rfl
            obtain ⟨u0, e0⟩ : ∃ u, ac.eval (.tmp 22) = u := ⟨_, rfl⟩
            rw [e0] at p0
            clear hd hz hf hw
            simp only [Region.wanted, if_true, Oper.wp, execOp, resolve, List.map_toArray, List.map_cons, List.map_nil, Option.map_some, Option.map_none, e0]
            go_simp
            obtain ⟨vc9, vr9, vd9, vp9, e, h1, h2⟩ := p0
            subst e
            go_simp
            exact hK _ _ ⟨vc9, vr9, vd9, rfl, h1⟩ (Same.refl _ _)
          · intro ac wc hs hd hz hf hw K hK
            have p0 : (⟨fun v w => ∃ vc vr vd vp, v = .tuple #[partV vc vr vd Q, repV vp R] ∧ OwnPart w w2.heap.size vc vr vd Q ∧ OwnP w w2.heap.size vp R.pairs, fun _ _ _ ⟨vc, vr, vd, vp, h1, h2, h3⟩ k => ⟨vc, vr, vd, vp, h1, h2.keepAll k, h3.keepAll k⟩⟩ : SP).p (ac.eval (.tmp 22)) wc := hw 8 rfl
            obtain ⟨u0, e0⟩ : ∃ u, ac.eval (.tmp 22) = u := ⟨_, rfl⟩
            rw [e0] at p0
            clear hd hz hf hw
            simp only [Region.wanted, if_true, Oper.wp, execOp, resolve, List.map_toArray, List.map_cons, List.map_nil, Option.map_some, Option.map_none, e0]
            go_simp
            obtain ⟨vc9, vr9, vd9, vp9, e, h1, h2⟩ := p0
            subst e
            go_simp
            exact hK _ _ ⟨vp9, rfl, h2⟩ (Same.refl _ _)
          · intro ac wc hs hd hz hf hw K hK
            clear hd hz hf hw
            simp only [Region.wanted, if_true, Oper.wp, execOp, resolve, List.map_toArray, List.map_cons, List.map_nil, Option.map_some, Option.map_none]
            go_simp
            exact hK _ _ ⟨_, rfl, hs.size, Row.new _ _ zeroPart⟩ ((Same.refl _ _).alloc _)
          · intro ac wc hs hd hz hf hw K hK
            clear hd hz hf hw
            simp only [Region.wanted, if_true, Oper.wp, execOp, resolve, List.map_toArray, List.map_cons, List.map_nil, Option.map_some, Option.map_none]
            go_simp
            exact hK _ _ ⟨_, rfl, hs.size, Row.new _ _ (repCs nilV ReplyM.zero)⟩ ((Same.refl _ _).alloc _)
        · intro vs wR hvl hvp hsR
          rcases vs with _ | ⟨z0, _ | ⟨z1, _ | ⟨z2, _ | ⟨z3, _ | ⟨z4, _ | ⟨z5, _ | ⟨z6, _ | ⟨z7, _ | ⟨z8, _ | ⟨z9, _ | ⟨z10, _ | ⟨z11, _ | ⟨z12, _ | ⟨zz, zr⟩⟩⟩⟩⟩⟩⟩⟩⟩⟩⟩⟩⟩⟩
          rotate_right 1
          · simp at hvl
          · simp at hvl
          · simp at hvl
          · simp at hvl
          · simp at hvl
          · simp at hvl
          · simp at hvl
          · simp at hvl
          · simp at hvl
          · simp at hvl
          · simp at hvl
          · simp at hvl
          · simp at hvl
          · simp at hvl
          · obtain rfl : z0 = (partV (.slice Ac p.cells.length cc) (.slice Ar p.recs.length cr) (.slice Ad p.done.length cd) p) := hvp 0 (by omega)
            obtain rfl : z1 = (partV (.slice Ac p.cells.length cc) (.slice Ar p.recs.length cr) (.slice Ad p.done.length cd) p) := hvp 1 (by omega)
            obtain rfl : z2 = (.slice (some ad) l.length cl) := hvp 2 (by omega)
            obtain rfl : z3 = (.int .i64 k) := hvp 3 (by omega)
            obtain rfl : z4 = (.pointer (some (ad.add (k * 14)))) := hvp 4 (by omega)
            obtain rfl : z5 = (cmdV (.slice As c.spans.length cs_) (.slice Aw c.writes.length cw_) c) := hvp 5 (by omega)
            obtain rfl : z6 = (cmdV (.slice As c.spans.length cs_) (.slice Aw c.writes.length cw_) (ownF p c false)) := hvp 6 (by omega)
            have hx30 : (⟨fun v w => ∃ vc vr vd vp, v = .tuple #[partV vc vr vd Q, repV vp R] ∧ OwnPart w w2.heap.size vc vr vd Q ∧ OwnP w w2.heap.size vp R.pairs, fun _ _ _ ⟨vc, vr, vd, vp, h1, h2, h3⟩ k => ⟨vc, vr, vd, vp, h1, h2.keepAll k, h3.keepAll k⟩⟩ : SP).p z7 wR := hvp 7 (by omega)
            have hx22 : (⟨fun v w => ∃ vc vr vd vp, v = .tuple #[partV vc vr vd Q, repV vp R] ∧ OwnPart w w2.heap.size vc vr vd Q ∧ OwnP w w2.heap.size vp R.pairs, fun _ _ _ ⟨vc, vr, vd, vp, h1, h2, h3⟩ k => ⟨vc, vr, vd, vp, h1, h2.keepAll k, h3.keepAll k⟩⟩ : SP).p z8 wR := hvp 8 (by omega)
            have hx31 : (⟨fun v w => ∃ vc vr vd, v = partV vc vr vd Q ∧ OwnPart w w2.heap.size vc vr vd Q, fun _ _ _ ⟨vc, vr, vd, h1, h2⟩ k => ⟨vc, vr, vd, h1, h2.keepAll k⟩⟩ : SP).p z9 wR := hvp 9 (by omega)
            have hx32 : (⟨fun v w => ∃ vp, v = repV vp R ∧ OwnP w w2.heap.size vp R.pairs, fun _ _ _ ⟨vp, h1, h2⟩ k => ⟨vp, h1, h2.keepAll k⟩⟩ : SP).p z10 wR := hvp 10 (by omega)
            have hx6 : (⟨fun v w => ∃ g, v = .pointer (some ⟨g, 0, none⟩) ∧ w2.heap.size ≤ g ∧ Row w g 77 zeroPart, fun _ _ _ ⟨g, h1, h2, h3⟩ k => ⟨g, h1, h2, h3.keep k trivial⟩⟩ : SP).p z11 wR := hvp 11 (by omega)
            have hx7 : (⟨fun v w => ∃ g, v = .pointer (some ⟨g, 0, none⟩) ∧ w2.heap.size ≤ g ∧ Row w g 85 (repCs nilV ReplyM.zero), fun _ _ _ ⟨g, h1, h2, h3⟩ k => ⟨g, h1, h2, h3.keep k trivial⟩⟩ : SP).p z12 wR := hvp 12 (by omega)
            clear hvl hvp
            simp only [putAll, Act.put, List.setIfInBounds_toArray, List.set_cons_succ, List.set_cons_zero, List.take_succ_cons, List.take_zero, List.drop_succ_cons, List.drop_zero, List.eraseIdx_cons_succ, List.eraseIdx_cons_zero]
            obtain ⟨vp9, rfl, hp9⟩ := hx32
            obtain ⟨vc9, vr9, vd9, rfl, ho9⟩ := hx31
            obtain ⟨vc8, vr8, vd8, vp8, rfl, ho8, hp8⟩ := hx22
            clear hp8 ho8 hx30
            obtain ⟨g6, rfl, hg6, r6⟩ := hx6
            obtain ⟨g7, rfl, hg7, r7⟩ := hx7
            obtain ⟨A9, c9, rfl, -, -⟩ := ho9.cells.form
            obtain ⟨B9, d9, rfl, -, -⟩ := OwnR.form ho9.recs
            obtain ⟨C9, e9, rfl, -, -⟩ := OwnR.form ho9.done
            obtain ⟨D9, f9, rfl, -, -⟩ := OwnP.form hp9
            have Hne := Lib.hid (show g6 ≠ g7 from r6.ne r7 (by decide))
            have hne1 := Hne.out
            have hne2 := Ne.symm Hne.out
            have Ho9 := Lib.hid ho9
            have R6 := Lib.hid r6
            have R7 := Lib.hid r7
            have HSR := Lib.hid hsR
            have z6 := r6.lt
            have z7 := r7.lt
            have x0 := r6.cell 0
            have x1 := r6.cell 1
            have x2 := r6.cell 2
            have x3 := r6.cell 3
            have x4 := r6.cell 4
            have x5 := r6.cell 5
            have x6 := r6.cell 6
            have x7 := r6.cell 7
            have x8 := r6.cell 8
            simp only [zeroPart, List.getElem?_cons_zero, List.getElem?_cons_succ] at x0 x1 x2 x3 x4 x5 x6 x7 x8
            have y0 := r6.frozen 0
            have y1 := r6.frozen 1
            have y2 := r6.frozen 2
            have y3 := r6.frozen 3
            have y4 := r6.frozen 4
            have y5 := r6.frozen 5
            have y6 := r6.frozen 6
            have y7 := r6.frozen 7
            have y8 := r6.frozen 8
            have t0 := r7.cell 0
            have t1 := r7.cell 1
            have t2 := r7.cell 2
            have t3 := r7.cell 3
            have t4 := r7.cell 4
            have t5 := r7.cell 5
            have t6 := r7.cell 6
            have t7 := r7.cell 7
            have t8 := r7.cell 8
            have t9 := r7.cell 9
            have t10 := r7.cell 10
            simp only [repCs, ReplyM.zero, List.getElem?_cons_zero, List.getElem?_cons_succ] at t0 t1 t2 t3 t4 t5 t6 t7 t8 t9 t10
            have u0 := r7.frozen 0
            have u1 := r7.frozen 1
            have u2 := r7.frozen 2
            have u3 := r7.frozen 3
            have u4 := r7.frozen 4
            have u5 := r7.frozen 5
            have u6 := r7.frozen 6
            have u7 := r7.frozen 7
            have u8 := r7.frozen 8
            have u9 := r7.frozen 9
            have u10 := r7.frozen 10
            clear ho9 r6 r7 hsR hp9
            go_wp2
            go_meet
            have q6 := R6.out.sets (partCs (.slice A9 Q.cells.length c9) (.slice B9 Q.recs.length d9) (.slice C9 Q.done.length e9) Q) 0
            have s6 := Same.sets (S := fun q => q ≠ g6) (g := g6) (fun h => h rfl) (partCs (.slice A9 Q.cells.length c9) (.slice B9 Q.recs.length d9) (.slice C9 Q.done.length e9) Q) 0 (Same.refl _ wR)
            have s7 := Same.sets (S := fun q => q ≠ g7) (g := g7) (fun h => h rfl) (repCs (.slice D9 R.pairs.length f9) R) 0 (Same.refl _ (setsW wR g6 0 (partCs (.slice A9 Q.cells.length c9) (.slice B9 Q.recs.length d9) (.slice C9 Q.done.length e9) Q)))
            have q7 := R7.out.keep s6 (Ne.symm Hne.out)
            exact ⟨g6, _, _, _, rfl, hg6, q6.keep s7 Hne.out, (Ho9.out.keepG R6.out s6).keepRep q7 s7, Same.sets' hg7 (repCs (.slice D9 R.pairs.length f9) R) 0 (Same.sets' hg6 (partCs (.slice A9 Q.cells.length c9) (.slice B9 Q.recs.length d9) (.slice C9 Q.done.length e9) Q) 0 HSR.out)⟩
        · intro vs wR hvl hvp hsR
          rcases vs with _ | ⟨z0, _ | ⟨z1, _ | ⟨z2, _ | ⟨z3, _ | ⟨z4, _ | ⟨z5, _ | ⟨z6, _ | ⟨z7, _ | ⟨z8, _ | ⟨z9, _ | ⟨z11, _ | ⟨z12, _ | ⟨zz, zr⟩⟩⟩⟩⟩⟩⟩⟩⟩⟩⟩⟩⟩
          rotate_right 1
          · simp at hvl
          · simp at hvl
          · simp at hvl
          · simp at hvl
          · simp at hvl
          · simp at hvl
          · simp at hvl
          · simp at hvl
          · simp at hvl
          · simp at hvl
          · simp at hvl
          · simp at hvl
          · simp at hvl
          · obtain rfl : z0 = (partV (.slice Ac p.cells.length cc) (.slice Ar p.recs.length cr) (.slice Ad p.done.length cd) p) := hvp 0 (by omega)
            obtain rfl : z1 = (partV (.slice Ac p.cells.length cc) (.slice Ar p.recs.length cr) (.slice Ad p.done.length cd) p) := hvp 1 (by omega)
            obtain rfl : z2 = (.slice (some ad) l.length cl) := hvp 2 (by omega)
            obtain rfl : z3 = (.int .i64 k) := hvp 3 (by omega)
            obtain rfl : z4 = (.pointer (some (ad.add (k * 14)))) := hvp 4 (by omega)
            obtain rfl : z5 = (cmdV (.slice As c.spans.length cs_) (.slice Aw c.writes.length cw_) c) := hvp 5 (by omega)
            obtain rfl : z6 = (cmdV (.slice As c.spans.length cs_) (.slice Aw c.writes.length cw_) (ownF p c false)) := hvp 6 (by omega)
            have hx30 : (⟨fun v w => ∃ vc vr vd vp, v = .tuple #[partV vc vr vd Q, repV vp R] ∧ OwnPart w w2.heap.size vc vr vd Q ∧ OwnP w w2.heap.size vp R.pairs, fun _ _ _ ⟨vc, vr, vd, vp, h1, h2, h3⟩ k => ⟨vc, vr, vd, vp, h1, h2.keepAll k, h3.keepAll k⟩⟩ : SP).p z7 wR := hvp 7 (by omega)
            have hx22 : (⟨fun v w => ∃ vc vr vd vp, v = .tuple #[partV vc vr vd Q, repV vp R] ∧ OwnPart w w2.heap.size vc vr vd Q ∧ OwnP w w2.heap.size vp R.pairs, fun _ _ _ ⟨vc, vr, vd, vp, h1, h2, h3⟩ k => ⟨vc, vr, vd, vp, h1, h2.keepAll k, h3.keepAll k⟩⟩ : SP).p z8 wR := hvp 8 (by omega)
            have hx31 : (⟨fun v w => ∃ vc vr vd, v = partV vc vr vd Q ∧ OwnPart w w2.heap.size vc vr vd Q, fun _ _ _ ⟨vc, vr, vd, h1, h2⟩ k => ⟨vc, vr, vd, h1, h2.keepAll k⟩⟩ : SP).p z9 wR := hvp 9 (by omega)
            have hx6 : (⟨fun v w => ∃ g, v = .pointer (some ⟨g, 0, none⟩) ∧ w2.heap.size ≤ g ∧ Row w g 77 zeroPart, fun _ _ _ ⟨g, h1, h2, h3⟩ k => ⟨g, h1, h2, h3.keep k trivial⟩⟩ : SP).p z11 wR := hvp 10 (by omega)
            have hx7 : (⟨fun v w => ∃ g, v = .pointer (some ⟨g, 0, none⟩) ∧ w2.heap.size ≤ g ∧ Row w g 85 (repCs nilV ReplyM.zero), fun _ _ _ ⟨g, h1, h2, h3⟩ k => ⟨g, h1, h2, h3.keep k trivial⟩⟩ : SP).p z12 wR := hvp 11 (by omega)
            clear hvl hvp
            simp only [putAll, Act.put, List.setIfInBounds_toArray, List.set_cons_succ, List.set_cons_zero, List.take_succ_cons, List.take_zero, List.drop_succ_cons, List.drop_zero, List.eraseIdx_cons_succ, List.eraseIdx_cons_zero]
            obtain ⟨vc9, vr9, vd9, rfl, ho9⟩ := hx31
            obtain ⟨vc8, vr8, vd8, vp8, rfl, ho8, hp8⟩ := hx22
            have hp9 := hp8
            clear hp8 ho8 hx30
            obtain ⟨g6, rfl, hg6, r6⟩ := hx6
            obtain ⟨g7, rfl, hg7, r7⟩ := hx7
            obtain ⟨A9, c9, rfl, -, -⟩ := ho9.cells.form
            obtain ⟨B9, d9, rfl, -, -⟩ := OwnR.form ho9.recs
            obtain ⟨C9, e9, rfl, -, -⟩ := OwnR.form ho9.done
            obtain ⟨D9, f9, rfl, -, -⟩ := OwnP.form hp9
            have Hne := Lib.hid (show g6 ≠ g7 from r6.ne r7 (by decide))
            have hne1 := Hne.out
            have hne2 := Ne.symm Hne.out
            have Ho9 := Lib.hid ho9
            have R6 := Lib.hid r6
            have R7 := Lib.hid r7
            have HSR := Lib.hid hsR
            have z6 := r6.lt
            have z7 := r7.lt
            have x0 := r6.cell 0
            have x1 := r6.cell 1
            have x2 := r6.cell 2
            have x3 := r6.cell 3
            have x4 := r6.cell 4
            have x5 := r6.cell 5
            have x6 := r6.cell 6
            have x7 := r6.cell 7
            have x8 := r6.cell 8
            simp only [zeroPart, List.getElem?_cons_zero, List.getElem?_cons_succ] at x0 x1 x2 x3 x4 x5 x6 x7 x8
            have y0 := r6.frozen 0
            have y1 := r6.frozen 1
            have y2 := r6.frozen 2
            have y3 := r6.frozen 3
            have y4 := r6.frozen 4
            have y5 := r6.frozen 5
            have y6 := r6.frozen 6
            have y7 := r6.frozen 7
            have y8 := r6.frozen 8
            have t0 := r7.cell 0
            have t1 := r7.cell 1
            have t2 := r7.cell 2
            have t3 := r7.cell 3
            have t4 := r7.cell 4
            have t5 := r7.cell 5
            have t6 := r7.cell 6
            have t7 := r7.cell 7
            have t8 := r7.cell 8
            have t9 := r7.cell 9
            have t10 := r7.cell 10
            simp only [repCs, ReplyM.zero, List.getElem?_cons_zero, List.getElem?_cons_succ] at t0 t1 t2 t3 t4 t5 t6 t7 t8 t9 t10
            have u0 := r7.frozen 0
            have u1 := r7.frozen 1
            have u2 := r7.frozen 2
            have u3 := r7.frozen 3
            have u4 := r7.frozen 4
            have u5 := r7.frozen 5
            have u6 := r7.frozen 6
            have u7 := r7.frozen 7
            have u8 := r7.frozen 8
            have u9 := r7.frozen 9
            have u10 := r7.frozen 10
            clear ho9 r6 r7 hsR hp9
            go_wp2
            go_meet
            have q6 := R6.out.sets (partCs (.slice A9 Q.cells.length c9) (.slice B9 Q.recs.length d9) (.slice C9 Q.done.length e9) Q) 0
            have s6 := Same.sets (S := fun q => q ≠ g6) (g := g6) (fun h => h rfl) (partCs (.slice A9 Q.cells.length c9) (.slice B9 Q.recs.length d9) (.slice C9 Q.done.length e9) Q) 0 (Same.refl _ wR)
            have s7 := Same.sets (S := fun q => q ≠ g7) (g := g7) (fun h => h rfl) (repCs (.slice D9 R.pairs.length f9) R) 0 (Same.refl _ (setsW wR g6 0 (partCs (.slice A9 Q.cells.length c9) (.slice B9 Q.recs.length d9) (.slice C9 Q.done.length e9) Q)))
            have q7 := R7.out.keep s6 (Ne.symm Hne.out)
            exact ⟨g6, _, _, _, rfl, hg6, q6.keep s7 Hne.out, (Ho9.out.keepG R6.out s6).keepRep q7 s7, Same.sets' hg7 (repCs (.slice D9 R.pairs.length f9) R) 0 (Same.sets' hg6 (partCs (.slice A9 Q.cells.length c9) (.slice B9 Q.recs.length d9) (.slice C9 Q.done.length e9) Q) 0 HSR.out)⟩
      case rest =>
        obtain ⟨g6, vc9, vr9, vd9, rfl, hg6, hrow, ho9, hS6⟩ := hcut
        obtain ⟨A9, c9, rfl, -, -⟩ := ho9.cells.form
        obtain ⟨B9, d9, rfl, -, -⟩ := OwnR.form ho9.recs
        obtain ⟨C9, e9, rfl, -, -⟩ := OwnR.form ho9.done
        clear p0 p1 p2 p3 p4 p5 p6 p7 p8 c0 c1 c2 c3 c4 c5 c6 c7 c8 c10 c11 c12 c13 ga
        have p0 := hrow.cell 0
        have p1 := hrow.cell 1
        have p2 := hrow.cell 2
        have p3 := hrow.cell 3
        have p4 := hrow.cell 4
        have p5 := hrow.cell 5
        have p6 := hrow.cell 6
        have p7 := hrow.cell 7
        have p8 := hrow.cell 8
        simp only [partCs, List.getElem?_cons_zero, List.getElem?_cons_succ] at p0 p1 p2 p3 p4 p5 p6 p7 p8
        have ha := (Same.refl (fun _ => True) wc).alloc (.cells (partCs (.slice A9 Q.cells.length c9) (.slice B9 Q.recs.length d9) (.slice C9 Q.done.length e9) Q).toArray 77)
        have hrn := Row.new wc 77 (partCs (.slice A9 Q.cells.length c9) (.slice B9 Q.recs.length d9) (.slice C9 Q.done.length e9) Q)
        have hpn := (HPS.out.keepAll hS6).keepAll ha
        have hon := (ho9.lower (B' := w.heap.size) (by have := HS2.out.size; omega)).keepAll ha
        have hsn := (HS2.out.trans hS6).trans ha
        have hszn := hsn.size
        have Hrn := Lib.hid hrn
        have Hpn := Lib.hid hpn
        have Hon := Lib.hid hon
        have Hsn := Lib.hid hsn
        have Hzn := Lib.hid hszn
        clear hrn hpn hon hsn hszn ha hrow ho9 hS6
        go_wp2_with (at_builtin; refine stopAt ?_)
        unfold Hid
        refine wpList_appP TPart rfl (.tmp 33) (.tmp 35) rfl ?_ rfl rfl Hrn.out Hpn.out Hon.out Hzn.out (by omega) (by rw [states_len]; omega) ?_
        · intro u hu
          simp only [partCs, List.mem_cons, List.not_mem_nil, or_false] at hu
          rcases hu with rfl | rfl | rfl | rfl | rfl | rfl | rfl | rfl | rfl <;> rfl
        intro v7 w7 hps7 hS7
        have HP7 := Lib.hid (show PartsO w7 w.heap.size v7 (statesF l (k + 1)) by rw [states_step, Hst.out]; exact hps7)
        have HS7 := Lib.hid (Hsn.out.trans' hS7 fun q hq _ => hq)
        clear hps7 hS7 p0 p1 p2 p3 p4 p5 p6 p7 p8
        go_wp2
        go_roundw
        case rel => exact ⟨k + 1, by go_num, by omega, HP7.out, HS7.out⟩
        case measure => simp [intOf]; omega
    · obtain rfl : k = l.length := by omega
      clear hps hS
      go_wp2
      go_ret
      exact ⟨_, rfl, HPS.out, HS.out⟩
end Go.Proofs.Ytoldelocfmpccaa
namespace Go.Proofs.Ytoldelocfmpccaa
open Go.RowKit
/-- What LightCmd tells. -/
def LcP (c : CmdM) (w : World) (e : Ending) (w' : World) : Prop := ∃ b, e = .returned (.bool b) ∧ (b = true → c.spans.length ≤ 99 ∧ c.writes.length ≤ 99) ∧ Same (fun _ => True) w w'
theorem lc_no {c : CmdM} {w w' : World} (h : Same (fun _ => True) w w') : LcP c w (.returned (.bool false)) w' := ⟨false, rfl, (fun h => by cases h), h⟩
set_option maxRecDepth 100000 in
set_option maxHeartbeats 4000000 in
theorem lightcmd_any (vs vw : Value) (c : CmdM) (S : Nat → Prop) (w : World) (hsp : SpanR w S vs c.spans) (hwr : WrR w S vw c.writes) (hl : CmdL c) :
    Calls Try.prog 75 #[cmdV vs vw c] w (LcP c w) := by
  obtain ⟨As, cs_, rfl, hs1, hs2⟩ := SpanR.form hsp
  obtain ⟨Aw, cw_, rfl, hw1, hw2⟩ := WrR.form hwr
  have Hsp := Lib.hid hsp
  have Hwr := Lib.hid hwr
  have HL := Lib.hid hl
  unfold maxLen at hs2 hw2
  clear hsp hwr hl
  have r0 := Row.new w 81 (cmdCs (.slice As c.spans.length cs_) (.slice Aw c.writes.length cw_) c)
  have hS0 := (Same.refl (fun _ => True) w).alloc (.cells (cmdCs (.slice As c.spans.length cs_) (.slice Aw c.writes.length cw_) c).toArray 81)
  go_enter Try.func75, Try.ntmps75
  go_wp2
  simp only [cmdCs] at r0 hS0
  revert r0 hS0
  generalize w.alloc _ = w1
  intro r0 hS0
  have R0 := Lib.hid r0
  have HS0 := Lib.hid hS0
  have m12 : w1.cell? ⟨w.heap.size, 12, none⟩ = some (.slice As c.spans.length cs_) := r0.cell 12
  clear r0 hS0
  go_loopw [3, 4] (fun n i wr => ∃ (k : Nat) (m : Int), n = .int .i64 m ∧ i = .int .i64 k ∧ k ≤ c.spans.length ∧ 0 ≤ m ∧ m ≤ 40000 ∧ Same (fun _ => True) w1 wr) (fun _ i _ => c.spans.length - (intOf i).toNat)
  case atStart => exact ⟨0, 0, rfl, rfl, Nat.zero_le _, by omega, by omega, Same.refl _ _⟩
  case round =>
    obtain ⟨k, m, rfl, rfl, hk, hm0, hm1, hS⟩ := hrel
    clear m12
    have HSr := Lib.hid hS
    have HS := Lib.hid (HS0.out.trans hS)
    have R1 := Lib.hid (R0.out.keep hS trivial)
    have r1 := R1.out
    have m12 : wr.cell? ⟨w.heap.size, 12, none⟩ = some (.slice As c.spans.length cs_) := r1.cell 12
    have m13 : wr.cell? ⟨w.heap.size, 13, none⟩ = some (.slice Aw c.writes.length cw_) := r1.cell 13
    clear r1 hS
    by_cases hm : m < 16384
    · by_cases hlt : k < c.spans.length
      · obtain ⟨ad, rfl, -, q0, q1⟩ := SpanR.cells (RowR.keepAll Hsp.out HS.out) hlt
        obtain ⟨l1, l2⟩ := HL.out.spans _ (List.getElem_mem hlt)
        have x1 : (0 : Int) ≤ (k : Int) := by omega
        have x2 : (k : Int) < (c.spans.length : Int) := by omega
        have s1 : (str c.spans[k].1).size = c.spans[k].1.length := str_size _
        have s2 : (str c.spans[k].2).size = c.spans[k].2.length := str_size _
        unfold maxLen at l1 l2
        generalize c.spans[k] = sp at *
        go_wp2
        all_goals try (go_ret; exact lc_no HS.out)
        go_quiet (fail)
        rename_i nq
        have HS2 := Lib.hid (HSr.out.trans ((Same.refl (fun _ => True) wr).drewN nq))
        clear m12 m13 q0 q1
        generalize wr.drewN nq = w2 at *
        go_wp2
        go_roundw
        case rel => exact ⟨k + 1, m + sp.1.length + sp.2.length, by go_num, by go_num, by omega, by omega, by omega, HS2.out⟩
        case measure => simp [intOf]; omega
      · obtain rfl : k = c.spans.length := by omega
        go_wp2
        obtain ⟨wo, rfl⟩ : ∃ wo : World, wo = wr := ⟨_, rfl⟩
        go_loopw [3, 5] (fun n i wr => ∃ (k : Nat) (m : Int), n = .int .i64 m ∧ i = .int .i64 k ∧ k ≤ c.writes.length ∧ 0 ≤ m ∧ m ≤ 40000 ∧ Same (fun _ => True) wo wr) (fun _ i _ => c.writes.length - (intOf i).toNat)
        case atStart => exact ⟨0, _, rfl, rfl, Nat.zero_le _, hm0, hm1, Same.refl _ _⟩
        case round =>
          obtain ⟨k, m, rfl, rfl, hk, hm0, hm1, hS⟩ := hrel
          clear m12 m13 hm
          have HSs := Lib.hid hS
          have HS2 := Lib.hid (HS.out.trans hS)
          have R2 := Lib.hid (R1.out.keep hS trivial)
          have r1 := R2.out
          have m12 : wr.cell? ⟨w.heap.size, 12, none⟩ = some (.slice As c.spans.length cs_) := r1.cell 12
          have m13 : wr.cell? ⟨w.heap.size, 13, none⟩ = some (.slice Aw c.writes.length cw_) := r1.cell 13
          clear r1 hS
          by_cases hm : m < 16384
          · by_cases hlt : k < c.writes.length
            · obtain ⟨ad, rfl, -, q0, q1, q2⟩ := WrR.cells (RowR.keepAll Hwr.out HS2.out) hlt
              obtain ⟨l1, l2⟩ := HL.out.writes _ (List.getElem_mem hlt)
              have x1 : (0 : Int) ≤ (k : Int) := by omega
              have x2 : (k : Int) < (c.writes.length : Int) := by omega
              have s1 : (str c.writes[k].key).size = c.writes[k].key.length := str_size _
              have s2 : (str c.writes[k].data).size = c.writes[k].data.length := str_size _
              unfold maxLen at l1 l2
              generalize c.writes[k] = sp at *
              go_wp2
              all_goals try (go_ret; exact lc_no HS2.out)
              go_quiet (fail)
              rename_i nq
              have HS3 := Lib.hid (HSs.out.trans ((Same.refl (fun _ => True) wr).drewN nq))
              clear m12 m13 q0 q1 q2
              generalize wr.drewN nq = w2 at *
              go_wp2
              go_roundw
              case rel => exact ⟨k + 1, m + sp.key.length + sp.data.length, by go_num, by go_num, by omega, by omega, by omega, HS3.out⟩
              case measure => simp [intOf]; omega
            · obtain rfl : k = c.writes.length := by omega
              have y0 : (m : Int) < 8192 ∨ ¬ (m : Int) < 8192 := by omega
              by_cases hb1 : (c.spans.length : Int) < 100
              · by_cases hb2 : (c.writes.length : Int) < 100
                · have Hb := Lib.hid (show c.spans.length ≤ 99 ∧ c.writes.length ≤ 99 by omega)
                  rcases y0 with y0 | y0
                  · go_wp2
                    go_ret
                    exact ⟨true, rfl, fun _ => Hb.out, HS2.out⟩
                  · go_wp2
                    go_ret
                    exact lc_no HS2.out
                · rcases y0 with y0 | y0 <;> go_wp2 <;> go_ret <;> exact lc_no HS2.out
              · rcases y0 with y0 | y0 <;> go_wp2 <;> go_ret <;> exact lc_no HS2.out
          · by_cases hlt : (k : Int) < (c.writes.length : Int)
            · go_wp2
              go_ret
              exact lc_no HS2.out
            · go_wp2
              go_ret
              exact lc_no HS2.out
    · by_cases hlt : (k : Int) < (c.spans.length : Int)
      · go_wp2
        obtain ⟨wo, rfl⟩ : ∃ wo : World, wo = wr := ⟨_, rfl⟩
        have Hm := Lib.hid hm
        clear hm
        go_loopw [3, 5] (fun n i wr => n = .int .i64 m ∧ i = .int .i64 0 ∧ Same (fun _ => True) wo wr) (fun _ i _ => 0)
        case atStart => exact ⟨rfl, rfl, Same.refl _ _⟩
        case round =>
          obtain ⟨rfl, rfl, hS⟩ := hrel
          clear m12 m13
          have HS2 := Lib.hid (HS.out.trans hS)
          have R2 := Lib.hid (R1.out.keep hS trivial)
          have r1 := R2.out
          have m12 : wr.cell? ⟨w.heap.size, 12, none⟩ = some (.slice As c.spans.length cs_) := r1.cell 12
          have m13 : wr.cell? ⟨w.heap.size, 13, none⟩ = some (.slice Aw c.writes.length cw_) := r1.cell 13
          have hm := Hm.out
          clear r1 hS
          by_cases hw0 : (0 : Int) < (c.writes.length : Int)
          · go_wp2
            go_ret
            exact lc_no HS2.out
          · go_wp2
            go_ret
            exact lc_no HS2.out
      · go_wp2
        obtain ⟨wo, rfl⟩ : ∃ wo : World, wo = wr := ⟨_, rfl⟩
        have Hm := Lib.hid hm
        clear hm
        go_loopw [3, 5] (fun n i wr => n = .int .i64 m ∧ i = .int .i64 0 ∧ Same (fun _ => True) wo wr) (fun _ i _ => 0)
        case atStart => exact ⟨rfl, rfl, Same.refl _ _⟩
        case round =>
          obtain ⟨rfl, rfl, hS⟩ := hrel
          clear m12 m13
          have HS2 := Lib.hid (HS.out.trans hS)
          have R2 := Lib.hid (R1.out.keep hS trivial)
          have r1 := R2.out
          have m12 : wr.cell? ⟨w.heap.size, 12, none⟩ = some (.slice As c.spans.length cs_) := r1.cell 12
          have m13 : wr.cell? ⟨w.heap.size, 13, none⟩ = some (.slice Aw c.writes.length cw_) := r1.cell 13
          have hm := Hm.out
          clear r1 hS
          by_cases hw0 : (0 : Int) < (c.writes.length : Int)
          · go_wp2
            go_ret
            exact lc_no HS2.out
          · go_wp2
            go_ret
            exact lc_no HS2.out
/-- What light tells. -/
def LightKP (most : Int) (l : List CmdM) (w : World) (e : Ending) (w' : World) : Prop := ∃ b, e = .returned (.bool b) ∧ (b = true → (l.length : Int) ≤ most ∧ ∀ c ∈ l, c.writes.length ≤ 99) ∧ Same (fun _ => True) w w'
set_option maxRecDepth 100000 in
set_option maxHeartbeats 2000000 in
theorem lightk_any (v : Value) (l : List CmdM) (most : Int) (S : Nat → Prop) (w : World) (hv : CmdR w S v l) (hm0 : 0 ≤ most ∧ most ≤ 1000) :
    Calls Try.prog 39 #[v, .int .i64 most] w (LightKP most l w) := by
  obtain ⟨A, cl, rfl, hc, hm⟩ := hv.form
  have Hv := Lib.hid hv
  unfold maxLen at hm
  clear hv
  by_cases hlong : most < l.length
  · go_enter Try.func39, Try.ntmps39
    go_wp2
    go_ret
    exact ⟨false, rfl, (fun h => by cases h), Same.refl _ _⟩
  · have Hl := Lib.hid (show (l.length : Int) ≤ most by omega)
    go_enter Try.func39, Try.ntmps39
    go_wp2
    go_loopw [5] (fun i wr => ∃ k : Nat, i = .int .i64 k ∧ k ≤ l.length ∧ (∀ c ∈ l.take k, c.writes.length ≤ 99) ∧ Same (fun _ => True) w wr) (fun i _ => l.length - (intOf i).toNat)
    case atStart => exact ⟨0, rfl, by omega, by simp, Same.refl _ _⟩
    case round =>
      obtain ⟨k, rfl, hk, hft, hS⟩ := hrel
      have HS := Lib.hid hS
      by_cases hlt : k < l.length
      · obtain ⟨ad, vs, vw, rfl, -, hsp, hwr, hcl, c0, hcs⟩ := CmdR.at_ (Hv.out.keepAll hS) hlt
        have x1 : (0 : Int) ≤ (k : Int) := by omega
        have x2 : (k : Int) < (l.length : Int) := by omega
        have hnx : l[k].writes.length ≤ 99 → ∀ c ∈ l.take (k + 1), c.writes.length ≤ 99 := fun h c hc => by
          rw [List.take_succ_eq_append_getElem hlt] at hc
          rcases List.mem_append.1 hc with hc | hc
          · exact hft c hc
          · obtain rfl := List.mem_singleton.1 hc
            exact h
        have Hnx := Lib.hid hnx
        generalize l[k] = c at *
        have c1 := hcs 1 (by omega) (by omega)
        have c2 := hcs 2 (by omega) (by omega)
        have c3 := hcs 3 (by omega) (by omega)
        have c4 := hcs 4 (by omega) (by omega)
        have c5 := hcs 5 (by omega) (by omega)
        have c6 := hcs 6 (by omega) (by omega)
        have c7 := hcs 7 (by omega) (by omega)
        have c8 := hcs 8 (by omega) (by omega)
        have c9 := hcs 9 (by omega) (by omega)
        have c10 := hcs 10 (by omega) (by omega)
        have c11 := hcs 11 (by omega) (by omega)
        have c12 := hcs 12 (by omega) (by omega)
        have c13 := hcs 13 (by omega) (by omega)
        simp only [cmdCs, List.getElem?_cons_zero, List.getElem?_cons_succ] at c1 c2 c3 c4 c5 c6 c7 c8 c9 c10 c11 c12 c13
        have g := lightcmd_any vs vw c S wr hsp hwr hcl
        clear hnx hft hS hcs hsp hwr hcl
        go_wp2_with (go_at_call 75; refine stopAt ?_)
        unfold Hid
        refine g.mono ?_
        rintro e w3 ⟨b, rfl, hb, hS3⟩
        have HS3 := Lib.hid (HS.out.trans hS3)
        clear g hS3 c0 c1 c2 c3 c4 c5 c6 c7 c8 c9 c10 c11 c12 c13
        cases b
        · clear hb
          go_wp2
          go_ret
          exact ⟨false, rfl, (fun h => by cases h), HS3.out⟩
        · have HN := Lib.hid (Hnx.out (hb rfl).2)
          clear hb Hnx
          go_wp2
          go_roundw
          case rel => exact ⟨k + 1, by go_num, by omega, HN.out, HS3.out⟩
          case measure => simp [intOf]; omega
      · obtain rfl : k = l.length := by omega
        rw [List.take_length] at hft
        have Hf := Lib.hid hft
        clear hft hS
        go_wp2
        go_ret
        exact ⟨true, rfl, fun _ => ⟨Hl.out, Hf.out⟩, HS.out⟩
end Go.Proofs.Ytoldelocfmpccaa
namespace Go.Proofs.Ytoldelocfmpccaa
open Go.RowKit
theorem out_ne (o : Out) (w : World) : (binOp .neq 93 (outV o) (outV o)).run Try.prog w = .ok (.bool false) w := by
  go_simp
set_option maxRecDepth 100000 in
set_option maxHeartbeats 2000000 in
theorem sameo_any (v v' : Value) (l : List Out) (S S' : Nat → Prop) (w : World) (hv : OutR w S v l) (hv' : OutR w S' v' l) :
    Calls Try.prog 82 #[v, v'] w fun e w' => e = .returned (.bool true) ∧ Same (fun _ => True) w w' := by
  obtain ⟨A, cp, rfl, hc, hm⟩ := OutR.form hv
  obtain ⟨A', cp', rfl, hc', hm'⟩ := OutR.form hv'
  have Hv := Lib.hid hv
  have Hv' := Lib.hid hv'
  have hne := out_ne
  unfold maxLen at hm hm'
  clear hv hv'
  go_enter Try.func82, Try.ntmps82
  go_wp2
  go_loopw [5] (fun i wr => ∃ k : Nat, i = .int .i64 k ∧ k ≤ l.length ∧ Same (fun _ => True) w wr) (fun i _ => l.length - (intOf i).toNat)
  case atStart => exact ⟨0, rfl, Nat.zero_le _, Same.refl _ _⟩
  case round =>
    obtain ⟨k, rfl, hk, hS⟩ := hrel
    have HS := Lib.hid hS
    by_cases hlt : k < l.length
    · obtain ⟨ad, rfl, -, c0, c1, c2, c3, c4, c5, c6⟩ := OutR.cells (RowR.keepAll Hv.out hS) hlt
      obtain ⟨ad', rfl, -, d0, d1, d2, d3, d4, d5, d6⟩ := OutR.cells (RowR.keepAll Hv'.out hS) hlt
      have x1 : (0 : Int) ≤ (k : Int) := by omega
      have x2 : (k : Int) < (l.length : Int) := by omega
      generalize l[k] = o at *
      clear hS
      go_wp2
      go_quiet (fail)
      rename_i nq
      have HS2 := Lib.hid (HS.out.trans ((Same.refl (fun _ => True) wr).drewN nq))
      clear c0 c1 c2 c3 c4 c5 c6 d0 d1 d2 d3 d4 d5 d6
      generalize wr.drewN nq = w2 at *
      go_wp2
      go_roundw
      case rel => exact ⟨k + 1, by go_num, by omega, HS2.out⟩
      case measure => simp [intOf]; omega
    · obtain rfl : k = l.length := by omega
      clear hS
      go_wp2
      go_ret
      exact ⟨rfl, HS.out⟩
set_option maxRecDepth 100000 in
set_option maxHeartbeats 4000000 in
theorem samepart_any (vc vr vd vc' vr' vd' : Value) (p : PartM) (S S' : Nat → Prop) (w : World) (hv : PartR w S vc vr vd p) (hv' : PartR w S' vc' vr' vd' p) (hn : PartN p) :
    Calls Try.prog 44 #[partV vc vr vd p, partV vc' vr' vd' p] w fun e w' => e = .returned (.bool true) ∧ Same (fun _ => True) w w' := by
  have Hv := Lib.hid hv
  have Hv' := Lib.hid hv'
  have Hn := Lib.hid hn
  obtain ⟨A0, c0_, rfl, -, hb0⟩ := hv.cells.form
  obtain ⟨A1, c1_, rfl, -, hb1⟩ := OutR.form hv.recs
  obtain ⟨A2, c2_, rfl, -, hb2⟩ := OutR.form hv.done
  obtain ⟨A3, c3_, rfl, -, hb3⟩ := hv'.cells.form
  obtain ⟨A4, c4_, rfl, -, hb4⟩ := OutR.form hv'.recs
  obtain ⟨A5, c5_, rfl, -, hb5⟩ := OutR.form hv'.done
  unfold maxLen at hb0 hb1 hb2 hb3 hb4 hb5
  have r0 := (Row.new w 77 (partCs (.slice A0 p.cells.length c0_) (.slice A1 p.recs.length c1_) (.slice A2 p.done.length c2_) p)).keep ((Same.refl (fun _ => True) _).alloc (.cells (partCs (.slice A3 p.cells.length c3_) (.slice A4 p.recs.length c4_) (.slice A5 p.done.length c5_) p).toArray 77)) trivial
  have r1 := Row.new (w.alloc (.cells (partCs (.slice A0 p.cells.length c0_) (.slice A1 p.recs.length c1_) (.slice A2 p.done.length c2_) p).toArray 77)) 77 (partCs (.slice A3 p.cells.length c3_) (.slice A4 p.recs.length c4_) (.slice A5 p.done.length c5_) p)
  have hS0 := ((Same.refl (fun _ => True) w).alloc (.cells (partCs (.slice A0 p.cells.length c0_) (.slice A1 p.recs.length c1_) (.slice A2 p.done.length c2_) p).toArray 77)).alloc (.cells (partCs (.slice A3 p.cells.length c3_) (.slice A4 p.recs.length c4_) (.slice A5 p.done.length c5_) p).toArray 77)
  rw [World.size_alloc] at r1
  clear hv hv' hn
  go_enter Try.func44, Try.ntmps44
  go_wp2_with (with_reducible refine stopDst 6 rfl ?_)
  unfold Hid
  simp only [partCs] at r0 r1 hS0
  revert r0 r1 hS0
  generalize (w.alloc _).alloc _ = w1
  intro r0 r1 hS0
  have R0 := Lib.hid r0
  have R1 := Lib.hid r1
  have HS0 := Lib.hid hS0
  have k0 := r0.cell 0
  have k1 := r0.cell 1
  have k2 := r0.cell 2
  have k3 := r0.cell 3
  have k4 := r0.cell 4
  have k5 := r0.cell 5
  have k6 := r0.cell 6
  have k7 := r0.cell 7
  have k8 := r0.cell 8
  have l0 := r1.cell 0
  have l1 := r1.cell 1
  have l2 := r1.cell 2
  have l3 := r1.cell 3
  have l4 := r1.cell 4
  have l5 := r1.cell 5
  have l6 := r1.cell 6
  have l7 := r1.cell 7
  have l8 := r1.cell 8
  simp only [List.getElem?_cons_zero, List.getElem?_cons_succ] at k0 k1 k2 k3 k4 k5 k6 k7 k8 l0 l1 l2 l3 l4 l5 l6 l7 l8
  clear r0 r1 hS0
  go_wp2_with (go_at_call 29; refine stopAt ?_)
  unfold Hid
  refine (same_any _ _ p.cells S S' w1 (Hv.out.cells.keepAll HS0.out) (Hv'.out.cells.keepAll HS0.out) Hn.out.cells Hn.out.vers).mono ?_
  rintro e w2 ⟨rfl, hS⟩
  have HS1 := Lib.hid (HS0.out.trans hS)
  have r0 := R0.out.keep hS trivial
  have r1 := R1.out.keep hS trivial
  clear k0 k1 k2 k3 k4 k5 k6 k7 k8 l0 l1 l2 l3 l4 l5 l6 l7 l8
  have R0 := Lib.hid r0
  have R1 := Lib.hid r1
  have k0 := r0.cell 0
  have k1 := r0.cell 1
  have k2 := r0.cell 2
  have k3 := r0.cell 3
  have k4 := r0.cell 4
  have k5 := r0.cell 5
  have k6 := r0.cell 6
  have k7 := r0.cell 7
  have k8 := r0.cell 8
  have l0 := r1.cell 0
  have l1 := r1.cell 1
  have l2 := r1.cell 2
  have l3 := r1.cell 3
  have l4 := r1.cell 4
  have l5 := r1.cell 5
  have l6 := r1.cell 6
  have l7 := r1.cell 7
  have l8 := r1.cell 8
  simp only [List.getElem?_cons_zero, List.getElem?_cons_succ] at k0 k1 k2 k3 k4 k5 k6 k7 k8 l0 l1 l2 l3 l4 l5 l6 l7 l8
  clear r0 r1 hS
  go_wp2_with (go_at_call 82; refine stopAt ?_)
  unfold Hid
  refine (sameo_any _ _ p.recs S S' w2 (RowR.keepAll Hv.out.recs HS1.out) (RowR.keepAll Hv'.out.recs HS1.out)).mono ?_
  rintro e w3 ⟨rfl, hS⟩
  have HS2 := Lib.hid (HS1.out.trans hS)
  have r0 := R0.out.keep hS trivial
  have r1 := R1.out.keep hS trivial
  clear k0 k1 k2 k3 k4 k5 k6 k7 k8 l0 l1 l2 l3 l4 l5 l6 l7 l8
  have k0 := r0.cell 0
  have k1 := r0.cell 1
  have k2 := r0.cell 2
  have k3 := r0.cell 3
  have k4 := r0.cell 4
  have k5 := r0.cell 5
  have k6 := r0.cell 6
  have k7 := r0.cell 7
  have k8 := r0.cell 8
  have l0 := r1.cell 0
  have l1 := r1.cell 1
  have l2 := r1.cell 2
  have l3 := r1.cell 3
  have l4 := r1.cell 4
  have l5 := r1.cell 5
  have l6 := r1.cell 6
  have l7 := r1.cell 7
  have l8 := r1.cell 8
  simp only [List.getElem?_cons_zero, List.getElem?_cons_succ] at k0 k1 k2 k3 k4 k5 k6 k7 k8 l0 l1 l2 l3 l4 l5 l6 l7 l8
  clear r0 r1 hS
  go_wp2_with (go_at_call 82; refine stopAt ?_)
  unfold Hid
  refine (sameo_any _ _ p.done S S' w3 (RowR.keepAll Hv.out.done HS2.out) (RowR.keepAll Hv'.out.done HS2.out)).mono ?_
  rintro e w4 ⟨rfl, hS⟩
  have HS3 := Lib.hid (HS2.out.trans hS)
  clear hS
  go_wp2
  go_ret
  exact ⟨rfl, HS3.out⟩
end Go.Proofs.Ytoldelocfmpccaa
