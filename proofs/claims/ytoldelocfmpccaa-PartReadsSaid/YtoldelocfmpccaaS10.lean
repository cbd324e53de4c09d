/-
  Words, plain models, laws and walks that the claims of this layer share (joined by shake.py). No condition.
-/
import Derived.Test.YtoldelocfmpccaaS1
import Derived.Test.YtoldelocfmpccaaS2
import Derived.Test.YtoldelocfmpccaaS3
import Derived.Test.YtoldelocfmpccaaS4
import Derived.Test.YtoldelocfmpccaaS5
import Derived.Test.YtoldelocfmpccaaS6
import Derived.Test.YtoldelocfmpccaaS7
import Derived.Test.YtoldelocfmpccaaS8
import Derived.Test.YtoldelocfmpccaaS9
set_option linter.unusedSimpArgs false
set_option linter.unusedVariables false
namespace Go.Proofs.Ytoldelocfmpccaa
open Go.RowKit
theorem outr_one {w : World} {g : Nat} {e : TypeId} {o : Out} (h : Row w g e (outCs o)) : OutR w (fun _ => True) (.slice (some ⟨g, 0, none⟩) 1 1) [o] := by
  have hsl := h.sl (size := 7) (off := 0) (n := 1) (by rw [outCs_len]; omega)
  rw [List.drop_zero, List.take_of_length_le (by rw [outCs_len]; omega)] at hsl
  exact ⟨_, 1, rfl, Nat.le_refl _, by simp [maxLen], by simpa using hsl.mono (fun _ _ _ => trivial) (by omega)⟩
/-- A row behind a row that the call owns; where it comes to lie, too. -/
theorem wpList_appR2 {α : Type} {f : α → List Value} {n : Nat} {e : TypeId} {w : World} {S : Nat → Prop} {v : Value} {l : List α} {P : Program} {t : TypeId} {bytes : Nat} {z : Value} (T : SlT P t e n bytes z) (hf : ∀ x, (f x).length = n) (h1 : ∀ x, ∀ u ∈ f x, u.oneCell' = true) {ops : Array Oper} {rest : List Oper} {o : Oper} {a : Act} {Q : Exit → Act → World → Prop} (hgd : o.guard = none) (s x : Operand)
    (ho : o.op = .call { callee := .builtin .append, args := #[s, x], argTypes := #[t, t] }) {B : Nat} {l2 : List α} {x' : Value}
    (hs : a.eval s = v) (hx : a.eval x = x') (hr : RowR f n w S x' l2) (hown : OwnR f n e w B v l) (hB : B ≤ w.heap.size) (hlen : l.length + l2.length ≤ maxLen) (hbytes : (l.length + l2.length) * bytes ≤ 140737488355328)
    (hK : ∀ v' w', OwnR f n e w' B v' (l ++ l2) → Same (fun k => some k ≠ v.ownBlock) w w' → (v'.ownBlock = v.ownBlock ∨ v'.ownBlock = some w.heap.size) → wpList P ops Q rest (a.put o.dst v') w') : wpList P ops Q (o :: rest) a w := by
  obtain ⟨A, c, rfl, h2, h3, h4⟩ := hr
  refine wpList_app T _ hgd s x ho B v l.length (l.flatMap f) hs hown S A l2.length c (l2.flatMap f) hx h4 (fun u hu => ?_) hlen hbytes hB ?_
  · obtain ⟨x, _, hx⟩ := List.mem_flatMap.1 hu
    exact h1 x u hx
  intro v' w' k1 k2 k3
  refine hK v' w' ?_ k2 k3
  unfold OwnR
  rw [List.length_append, List.flatMap_append]
  exact k1
theorem OwnPart.growR {w w' : World} {B : Nat} {vc vr vd : Value} {p : PartM} (h : OwnPart w B vc vr vd p) (hs : Same (fun k => some k ≠ vr.ownBlock) w w') : OwnC w' B vc p.cells ∧ OwnO w' B vd p.done := by
  refine ⟨?_, own_keep h.done hs fun k hk e => h.apart k hk e.symm⟩
  rcases ownsRow_row h.recs with ⟨rfl, _, _⟩ | ⟨g', cap, cur, rfl, _, hr', _⟩
  · exact h.cells.keepAll (hs.mono fun k _ _ e => by cases e)
  · exact h.cells.keepG hr' (by decide) (by decide) (hs.mono fun k _ hk e => hk (Option.some.inj e))
theorem OwnPart.growD {w w' : World} {B : Nat} {vc vr vd : Value} {p : PartM} (h : OwnPart w B vc vr vd p) (hs : Same (fun k => some k ≠ vd.ownBlock) w w') : OwnC w' B vc p.cells ∧ OwnO w' B vr p.recs := by
  refine ⟨?_, own_keep h.recs hs fun k hk e => h.apart k e.symm hk⟩
  rcases ownsRow_row h.done with ⟨rfl, _, _⟩ | ⟨g', cap, cur, rfl, _, hr', _⟩
  · exact h.cells.keepAll (hs.mono fun k _ _ e => by cases e)
  · exact h.cells.keepG hr' (by decide) (by decide) (hs.mono fun k _ hk e => hk (Option.some.inj e))
def newO (c : CmdM) : Out := ⟨c.by_, c.at_, c.yes⟩
def decideF (p : PartM) (c : CmdM) : PartM × ReplyM :=
  if (findO p.recs c.by_).2 then (p, { ReplyM.zero with yes := (findO p.recs c.by_).1.yes, at_ := (findO p.recs c.by_).1.at_ })
  else ({ p with recs := p.recs ++ [newO c] }, { ReplyM.zero with yes := c.yes, at_ := c.at_ })
def settleF (p : PartM) (c : CmdM) : PartM × ReplyM :=
  ({ p with cells := setlF p.cells c.by_ c.yes, done := if (findO p.done c.by_).2 then p.done else p.done ++ [newO c] }, ReplyM.zero)
def closeF (p : PartM) (c : CmdM) : PartM × ReplyM := ({ p with closed := max p.closed (min c.wall 4611686018427387904) }, { ReplyM.zero with wall := max p.closed (min c.wall 4611686018427387904) })
def lowF (p : PartM) (c : CmdM) : Int := max p.low (min c.wall p.closed)
def trimPF (p : PartM) (c : CmdM) : PartM × ReplyM := ({ p with low := lowF p c, cells := trimF p.cells ⟨lowF p c, 0⟩ }, { ReplyM.zero with wall := lowF p c })
def doesF (p : PartM) (c : CmdM) : PartM × ReplyM :=
  if c.kind = 2 then readF p c else if c.kind = 3 then prepareF p c else if c.kind = 4 then decideF p c else if c.kind = 5 then settleF p c else if c.kind = 6 then closeF p c else if c.kind = 7 then trimPF p c else (p, repErr 9)
theorem does_results {W : World} {k : Nat} {vp : Value} {r : ReplyM} (R : Row W k 85 (repCs vp r)) {tmps : Array Value} (h2 : tmps.getD 4 undef = .pointer (some ⟨k, 0, none⟩)) :
    (results Try.f78 tmps).run Try.prog W = .ok (repV vp r) W := by
  have d0 := R.cell 0
  have d1 := R.cell 1
  have d2 := R.cell 2
  have d3 := R.cell 3
  have d4 := R.cell 4
  have d5 := R.cell 5
  have d6 := R.cell 6
  have d7 := R.cell 7
  have d8 := R.cell 8
  have d9 := R.cell 9
  have d10 := R.cell 10
  simp only [repCs, List.getElem?_cons_zero, List.getElem?_cons_succ] at d0 d1 d2 d3 d4 d5 d6 d7 d8 d9 d10
  simp at h2
  simp [results, Try.results78, h2, go_sem, d0, d1, d2, d3, d4, d5, d6, d7, d8, d9, d10]
set_option maxRecDepth 100000 in
set_option maxHeartbeats 8000000 in
theorem does_any (g B N : Nat) (S : Nat → Prop) (vc vr vd vs vw : Value) (p : PartM) (c : CmdM) (w : World) (hr : Row w g 77 (partCs vc vr vd p)) (ho : OwnPart w B vc vr vd p) (hB : B ≤ g) (hBw : B ≤ w.heap.size) (hf : Fine N p.cells) (hN : N + c.writes.length ≤ 100000) (hn : PartN p) (hsp : SpanR w S vs c.spans) (hwr : WrR w S vw c.writes) (hS : ∀ k, S k → k < B) :
    Calls Try.prog 78 #[.pointer (some ⟨g, 0, none⟩), cmdV vs vw c] w (DoesP B g vr vd (doesF p c) w) := by
  have r0 := (Row.new w 81 (cmdCs vs vw c)).keep ((Same.refl (fun _ => True) _).alloc (.cells (repCs nilV ReplyM.zero).toArray 85)) trivial
  have r1 := Row.new (w.alloc (.cells (cmdCs vs vw c).toArray 81)) 85 (repCs nilV ReplyM.zero)
  have hS0 := ((Same.refl (fun _ => True) w).alloc (.cells (cmdCs vs vw c).toArray 81)).alloc (.cells (repCs nilV ReplyM.zero).toArray 85)
  rw [World.size_alloc] at r1
  have hcl := hf.len (by omega)
  have hn3 := hn.recs
  have hn4 := hn.done
  have Hf := Lib.hid hf
  have Hn := Lib.hid hn
  have Hr := Lib.hid hr
  have HSB := Lib.hid hS
  obtain ⟨As, cs_, rfl, hs1, hs2⟩ := SpanR.form hsp
  obtain ⟨Aw, cw_, rfl, hw1, hw2⟩ := WrR.form hwr
  obtain ⟨Ac, cc, rfl, hc1, hc2⟩ := ho.cells.form
  obtain ⟨Ar, cr, rfl, hr1, hr2⟩ := OwnR.form ho.recs
  obtain ⟨Ad, cd, rfl, hd1, hd2⟩ := OwnR.form ho.done
  have Ho := Lib.hid ho
  have Hsp := Lib.hid hsp
  have Hwr := Lib.hid hwr
  unfold maxLen at hs2 hc2 hd2 hr2 hw2
  have hgl := hr.lt
  clear ho hr hf hsp hwr hS hn
  have hp := Hr.out.keep hS0 trivial
  have z1 := r1.lt
  go_enter Try.func78, Try.ntmps78
  go_wp2_with (with_reducible refine stopDst 10 rfl ?_)
  unfold Hid
  simp only [partCs, cmdCs, repCs, ReplyM.zero] at r0 r1 hp hS0
  revert r0 r1 hS0 hp z1
  generalize (w.alloc _).alloc _ = w1
  intro r0 r1 hS0 hp z1
  have R0 := Lib.hid r0
  have R1 := Lib.hid r1
  have HP := Lib.hid hp
  have HS0 := Lib.hid hS0
  have HSw := Lib.hid hS0
  have Ho1 := Lib.hid (Ho.out.keepAll hS0)
  have hB1 : B ≤ w1.heap.size := Nat.le_trans hBw hS0.size
  clear r0 r1 hp hS0 z1
  have hp := HP.out.keep (Same.refl (fun _ => True) w1) trivial
  have r0 := R0.out.keep (Same.refl (fun _ => True) w1) trivial
  have r1 := R1.out.keep (Same.refl (fun _ => True) w1) trivial
  have p0 := hp.cell 0
  have p1 := hp.cell 1
  have p2 := hp.cell 2
  have p3 := hp.cell 3
  have p4 := hp.cell 4
  have p5 := hp.cell 5
  have p6 := hp.cell 6
  have p7 := hp.cell 7
  have p8 := hp.cell 8
  simp only [List.getElem?_cons_zero, List.getElem?_cons_succ] at p0 p1 p2 p3 p4 p5 p6 p7 p8
  have c0 := r0.cell 0
  have c1 := r0.cell 1
  have c2 := r0.cell 2
  have c3 := r0.cell 3
  have c4 := r0.cell 4
  have c5 := r0.cell 5
  have c6 := r0.cell 6
  have c7 := r0.cell 7
  have c8 := r0.cell 8
  have c9 := r0.cell 9
  have c10 := r0.cell 10
  have c11 := r0.cell 11
  have c12 := r0.cell 12
  have c13 := r0.cell 13
  simp only [List.getElem?_cons_zero, List.getElem?_cons_succ] at c0 c1 c2 c3 c4 c5 c6 c7 c8 c9 c10 c11 c12 c13
  have e0 := r1.cell 0
  have e1 := r1.cell 1
  have e2 := r1.cell 2
  have e3 := r1.cell 3
  have e4 := r1.cell 4
  have e5 := r1.cell 5
  have e6 := r1.cell 6
  have e7 := r1.cell 7
  have e8 := r1.cell 8
  have e9 := r1.cell 9
  have e10 := r1.cell 10
  simp only [List.getElem?_cons_zero, List.getElem?_cons_succ] at e0 e1 e2 e3 e4 e5 e6 e7 e8 e9 e10
  have f0 := r1.frozen 0
  have f1 := r1.frozen 1
  have f2 := r1.frozen 2
  have f3 := r1.frozen 3
  have f4 := r1.frozen 4
  have f5 := r1.frozen 5
  have f6 := r1.frozen 6
  have f7 := r1.frozen 7
  have f8 := r1.frozen 8
  have f9 := r1.frozen 9
  have f10 := r1.frozen 10
  have zp := hp.lt
  have z1 := r1.lt
  clear hp r0 r1
  go_wp2_with (first | (go_at_call 104; refine stopAt ?_) | (go_at_call 105; refine stopAt ?_))
  · have hk2 : c.kind = 2 := by simpa using (‹(c.kind == 2) = true›)
    have HL := Lib.hid (show doesF p c = readF p c by unfold doesF; rw [if_pos hk2])
    clear hk2
    unfold Hid
    refine (read_any g B S (.slice Ac p.cells.length cc) (.slice Ar p.recs.length cr) (.slice Ad p.done.length cd) (.slice As c.spans.length cs_) (.slice Aw c.writes.length cw_) p c w1 HP.out Ho1.out hB hB1 Hn.out Hf.out.good.sorted (RowR.keepAll Hsp.out HSw.out) HSB.out).mono ?_
    rintro e wd ⟨vc', vr', vd', vp, rfl, hrow, hown, hpair, hsd⟩
    obtain ⟨Ap, cp, rfl, -, -⟩ := OwnP.form hpair
    have R1 := Lib.hid (R1.out.keep hsd (Ho1.out.sdRow R1.out (by decide) (by omega)))
    have HRow := Lib.hid hrow
    have HOwn := Lib.hid hown
    have HPair := Lib.hid hpair
    have HSd := Lib.hid ((HSw.out.mono (S' := Sd g (.slice Ar p.recs.length cr) (.slice Ad p.done.length cd)) fun _ _ _ => trivial).trans hsd)
    have hsz := hsd.size
    clear p0 p1 p2 p3 p4 p5 p6 p7 p8 c0 c1 c2 c3 c4 c5 c6 c7 c8 c9 c10 c11 c12 c13 e0 f0 e1 f1 e2 f2 e3 f3 e4 f4 e5 f5 e6 f6 e7 f7 e8 f8 e9 f9 e10 f10 zp z1
    clear hrow hown hpair hsd
    have r1 := R1.out
    have e0 := r1.cell 0
    have e1 := r1.cell 1
    have e2 := r1.cell 2
    have e3 := r1.cell 3
    have e4 := r1.cell 4
    have e5 := r1.cell 5
    have e6 := r1.cell 6
    have e7 := r1.cell 7
    have e8 := r1.cell 8
    have e9 := r1.cell 9
    have e10 := r1.cell 10
    simp only [List.getElem?_cons_zero, List.getElem?_cons_succ] at e0 e1 e2 e3 e4 e5 e6 e7 e8 e9 e10
    have f0 := r1.frozen 0
    have f1 := r1.frozen 1
    have f2 := r1.frozen 2
    have f3 := r1.frozen 3
    have f4 := r1.frozen 4
    have f5 := r1.frozen 5
    have f6 := r1.frozen 6
    have f7 := r1.frozen 7
    have f8 := r1.frozen 8
    have f9 := r1.frozen 9
    have f10 := r1.frozen 10
    have z1 := r1.lt
    clear r1
    go_wp2
    have hS9 := Same.sets' (S := Sd g (.slice Ar p.recs.length cr) (.slice Ad p.done.length cd)) (w := w) (g := w.heap.size + 1) (by omega) (repCs (.slice Ap (readF p c).2.pairs.length cp) (readF p c).2) 0 HSd.out
    have hq9 := Same.sets (S := fun q => q ≠ w.heap.size + 1) (g := w.heap.size + 1) (fun h => h rfl) (repCs (.slice Ap (readF p c).2.pairs.length cp) (readF p c).2) 0 (Same.refl _ wd)
    rw [HL.out]
    exact bodyPost_ret (does_results (r := (readF p c).2) (vp := .slice Ap (readF p c).2.pairs.length cp) (show Row _ _ _ (repCs (.slice Ap (readF p c).2.pairs.length cp) (readF p c).2) from R1.out.sets (repCs (.slice Ap (readF p c).2.pairs.length cp) (readF p c).2) 0) rfl) rfl ⟨_, _, _, _, rfl, HRow.out.keep hq9 (by omega), HOwn.out.keepRep R1.out hq9, OwnR.keepG HPair.out R1.out (by decide) hq9, hS9⟩
  · have hk2 : ¬ c.kind = 2 := by simpa using (‹(c.kind == 2) = false›)
    have hk3 : c.kind = 3 := by simpa using (‹(c.kind == 3) = true›)
    have HL := Lib.hid (show doesF p c = prepareF p c by unfold doesF; rw [if_neg hk2, if_pos hk3])
    clear hk2 hk3
    unfold Hid
    refine (prepare_any g B N S (.slice Ac p.cells.length cc) (.slice Ar p.recs.length cr) (.slice Ad p.done.length cd) (.slice As c.spans.length cs_) (.slice Aw c.writes.length cw_) p c w1 HP.out Ho1.out hB hB1 Hf.out hN (RowR.keepAll Hwr.out HSw.out) HSB.out).mono ?_
    rintro e wd ⟨vc', vr', vd', vp, rfl, hrow, hown, hpair, hsd⟩
    obtain ⟨Ap, cp, rfl, -, -⟩ := OwnP.form hpair
    have R1 := Lib.hid (R1.out.keep hsd (Ho1.out.sdRow R1.out (by decide) (by omega)))
    have HRow := Lib.hid hrow
    have HOwn := Lib.hid hown
    have HPair := Lib.hid hpair
    have HSd := Lib.hid ((HSw.out.mono (S' := Sd g (.slice Ar p.recs.length cr) (.slice Ad p.done.length cd)) fun _ _ _ => trivial).trans hsd)
    have hsz := hsd.size
    clear p0 p1 p2 p3 p4 p5 p6 p7 p8 c0 c1 c2 c3 c4 c5 c6 c7 c8 c9 c10 c11 c12 c13 e0 f0 e1 f1 e2 f2 e3 f3 e4 f4 e5 f5 e6 f6 e7 f7 e8 f8 e9 f9 e10 f10 zp z1
    clear hrow hown hpair hsd
    have r1 := R1.out
    have e0 := r1.cell 0
    have e1 := r1.cell 1
    have e2 := r1.cell 2
    have e3 := r1.cell 3
    have e4 := r1.cell 4
    have e5 := r1.cell 5
    have e6 := r1.cell 6
    have e7 := r1.cell 7
    have e8 := r1.cell 8
    have e9 := r1.cell 9
    have e10 := r1.cell 10
    simp only [List.getElem?_cons_zero, List.getElem?_cons_succ] at e0 e1 e2 e3 e4 e5 e6 e7 e8 e9 e10
    have f0 := r1.frozen 0
    have f1 := r1.frozen 1
    have f2 := r1.frozen 2
    have f3 := r1.frozen 3
    have f4 := r1.frozen 4
    have f5 := r1.frozen 5
    have f6 := r1.frozen 6
    have f7 := r1.frozen 7
    have f8 := r1.frozen 8
    have f9 := r1.frozen 9
    have f10 := r1.frozen 10
    have z1 := r1.lt
    clear r1
    go_wp2
    have hS9 := Same.sets' (S := Sd g (.slice Ar p.recs.length cr) (.slice Ad p.done.length cd)) (w := w) (g := w.heap.size + 1) (by omega) (repCs (.slice Ap (prepareF p c).2.pairs.length cp) (prepareF p c).2) 0 HSd.out
    have hq9 := Same.sets (S := fun q => q ≠ w.heap.size + 1) (g := w.heap.size + 1) (fun h => h rfl) (repCs (.slice Ap (prepareF p c).2.pairs.length cp) (prepareF p c).2) 0 (Same.refl _ wd)
    rw [HL.out]
    exact bodyPost_ret (does_results (r := (prepareF p c).2) (vp := .slice Ap (prepareF p c).2.pairs.length cp) (show Row _ _ _ (repCs (.slice Ap (prepareF p c).2.pairs.length cp) (prepareF p c).2) from R1.out.sets (repCs (.slice Ap (prepareF p c).2.pairs.length cp) (prepareF p c).2) 0) rfl) rfl ⟨_, _, _, _, rfl, HRow.out.keep hq9 (by omega), HOwn.out.keepRep R1.out hq9, OwnR.keepG HPair.out R1.out (by decide) hq9, hS9⟩
  · have hk2 : ¬ c.kind = 2 := by simpa using (‹(c.kind == 2) = false›)
    have hk3 : ¬ c.kind = 3 := by simpa using (‹(c.kind == 3) = false›)
    have hk4 : c.kind = 4 := by simpa using (‹(c.kind == 4) = true›)
    have HL0 := Lib.hid (show doesF p c = decideF p c by unfold doesF; rw [if_neg hk2, if_neg hk3, if_pos hk4])
    clear hk2 hk3 hk4
    have gf := fun W (hW : Same (fun _ => True) w1 W) => find_any (.slice Ar p.recs.length cr) p.recs c.by_ _ W (RowR.keepAll ((OwnR.wr Ho1.out.recs).row outCs_len) hW)
    obtain ⟨⟨o, is⟩, hfo⟩ : ∃ r, r = findO p.recs c.by_ := ⟨_, rfl⟩
    rw [← hfo] at gf
    have Hfo := Lib.hid hfo
    clear hfo
    go_cut [5, 6] from 9 to 156 (fun v5 v6 wx => v6 = .bool is ∧ ∃ gl, v5 = .pointer (some ⟨gl, 0, none⟩) ∧ Row wx gl 93 (outCs o) ∧ Same (fun _ => True) w1 wx)
    case first =>
      refine wp_region_tail_d (L := [.eq (.pointer (some ⟨g, 0, none⟩)), .eq (.pointer (some ⟨g, 0, none⟩)), .eq (.pointer (some ⟨g, 7, none⟩)), .eq (.slice Ar p.recs.length cr), .eq (.pointer (some ⟨w.heap.size, 4, none⟩)), .eq (tryV c.by_), .eq (.tuple #[outV o, .bool is]), .eq (.tuple #[outV o, .bool is]), .eq (outV o), .eq (.bool is), .of ⟨fun v w => ∃ gl, v = .pointer (some ⟨gl, 0, none⟩) ∧ w1.heap.size ≤ gl ∧ Row w gl 93 (outCs Out.zero), fun _ _ _ ⟨gl, h1, h2, h3⟩ k => ⟨gl, h1, h2, h3.keep k trivial⟩⟩]) 11 9 (by omega) (by kernel_rfl) (by kernel_rfl) rfl rfl rfl rfl rfl rfl ?_ ?_ ?_
      · refine ⟨?_, ?_, ?_, ?_, ?_, ?_, ?_, ?_, ?_, ?_, ?_, trivial⟩
        · intro ac wc hs hd hz hf hw K hK
          have e0 : ac.eval (.tmp 0) = (.pointer (some ⟨g, 0, none⟩)) := hf 0 rfl
          clear hd hz hf hw
          simp only [Region.wanted, if_true, Oper.wp, execOp, resolve, List.map_toArray, List.map_cons, List.map_nil, Option.map_some, Option.map_none, e0]
          go_simp
          exact hK _ _ rfl (Same.refl _ _)
        · intro ac wc hs hd hz hf hw K hK
          have e0 : ac.eval (.tmp 24) = (.pointer (some ⟨g, 0, none⟩)) := hw 0 rfl
          clear hd hz hf hw
          simp only [Region.wanted, if_true, Oper.wp, execOp, resolve, List.map_toArray, List.map_cons, List.map_nil, Option.map_some, Option.map_none, e0]
          go_simp
          exact hK _ _ rfl (Same.refl _ _)
        · intro ac wc hs hd hz hf hw K hK
          have e0 : ac.eval (.tmp 25) = (.pointer (some ⟨g, 0, none⟩)) := hw 1 rfl
          clear hd hz hf hw
          simp only [Region.wanted, if_true, Oper.wp, execOp, resolve, List.map_toArray, List.map_cons, List.map_nil, Option.map_some, Option.map_none, e0]
          go_simp
          exact hK _ _ rfl (Same.refl _ _)
        · intro ac wc hs hd hz hf hw K hK
          have e0 : ac.eval (.tmp 26) = (.pointer (some ⟨g, 7, none⟩)) := hw 2 rfl
          have m0 : wc.cell? ⟨g, 7, none⟩ = some (.slice Ar p.recs.length cr) := hs.cell (p := ⟨g, 7, none⟩) trivial p7
          clear hd hz hf hw
          simp only [Region.wanted, if_true, Oper.wp, execOp, resolve, List.map_toArray, List.map_cons, List.map_nil, Option.map_some, Option.map_none, e0]
          go_simp
          exact hK _ _ rfl (Same.refl _ _)
        · intro ac wc hs hd hz hf hw K hK
          have e0 : ac.eval (.tmp 3) = (.pointer (some ⟨w.heap.size, 0, none⟩)) := hf 3 rfl
          clear hd hz hf hw
          simp only [Region.wanted, if_true, Oper.wp, execOp, resolve, List.map_toArray, List.map_cons, List.map_nil, Option.map_some, Option.map_none, e0]
          go_simp
          exact hK _ _ rfl (Same.refl _ _)
        · intro ac wc hs hd hz hf hw K hK
          have e0 : ac.eval (.tmp 28) = (.pointer (some ⟨w.heap.size, 4, none⟩)) := hw 4 rfl
          have m0 : wc.cell? ⟨w.heap.size, 4, none⟩ = some (.int .i64 c.by_.node) := hs.cell (p := ⟨w.heap.size, 4, none⟩) trivial c4
          have m1 : wc.cell? ⟨w.heap.size, 5, none⟩ = some (.int .i64 c.by_.life) := hs.cell (p := ⟨w.heap.size, 5, none⟩) trivial c5
          have m2 : wc.cell? ⟨w.heap.size, 6, none⟩ = some (.int .i64 c.by_.seq) := hs.cell (p := ⟨w.heap.size, 6, none⟩) trivial c6
          have m3 : wc.cell? ⟨w.heap.size, 7, none⟩ = some (.int .i64 c.by_.attempt) := hs.cell (p := ⟨w.heap.size, 7, none⟩) trivial c7
          clear hd hz hf hw
          simp only [Region.wanted, if_true, Oper.wp, execOp, resolve, List.map_toArray, List.map_cons, List.map_nil, Option.map_some, Option.map_none, e0]
          go_simp
          exact hK _ _ rfl (Same.refl _ _)
        · intro ac wc hs hd hz hf hw K hK
          have e0 : ac.eval (.tmp 27) = (.slice Ar p.recs.length cr) := hw 3 rfl
          have e1 : ac.eval (.tmp 29) = (tryV c.by_) := hw 5 rfl
          clear hd hz hf hw
          simp only [Region.wanted, if_true, Oper.wp, execOp, resolve, List.map_toArray, List.map_cons, List.map_nil, Option.map_some, Option.map_none, e0, e1]
          go_simp
          refine (gf wc hs).mono ?_
          rintro e wd ⟨rfl, hs2⟩
          exact hK _ _ rfl hs2
        · intro ac wc hs hd hz hf hw K hK
          have e0 : ac.eval (.tmp 30) = (.tuple #[outV o, .bool is]) := hw 6 rfl
          clear hd hz hf hw
          simp only [Region.wanted, if_true, Oper.wp, execOp, resolve, List.map_toArray, List.map_cons, List.map_nil, Option.map_some, Option.map_none, e0]
          go_simp
          exact hK _ _ rfl (Same.refl _ _)
        · intro ac wc hs hd hz hf hw K hK
          have e0 : ac.eval (.tmp 23) = (.tuple #[outV o, .bool is]) := hw 7 rfl
          clear hd hz hf hw
          simp only [Region.wanted, if_true, Oper.wp, execOp, resolve, List.map_toArray, List.map_cons, List.map_nil, Option.map_some, Option.map_none, e0]
          go_simp
          exact hK _ _ rfl (Same.refl _ _)
        · intro ac wc hs hd hz hf hw K hK
          have e0 : ac.eval (.tmp 23) = (.tuple #[outV o, .bool is]) := hw 7 rfl
          clear hd hz hf hw
          simp only [Region.wanted, if_true, Oper.wp, execOp, resolve, List.map_toArray, List.map_cons, List.map_nil, Option.map_some, Option.map_none, e0]
          go_simp
          exact hK _ _ rfl (Same.refl _ _)
        · intro ac wc hs hd hz hf hw K hK
          clear hd hz hf hw
          simp only [Region.wanted, if_true, Oper.wp, execOp, resolve, List.map_toArray, List.map_cons, List.map_nil, Option.map_some, Option.map_none]
          go_simp
          exact hK _ _ ⟨_, rfl, hs.size, Row.new _ _ (outCs Out.zero)⟩ ((Same.refl _ _).alloc _)
      · intro vs wR hvl hvp hsR
        rcases vs with _ | ⟨z0, _ | ⟨z1, _ | ⟨z2, _ | ⟨z3, _ | ⟨z4, _ | ⟨z5, _ | ⟨z6, _ | ⟨z7, _ | ⟨z8, _ | ⟨z9, _ | ⟨z10, _ | ⟨zz, zr⟩⟩⟩⟩⟩⟩⟩⟩⟩⟩⟩⟩
        rotate_right 1
        · simp at hvl
        · simp at hvl
        · simp at hvl
        · simp at hvl
        · simp at hvl
        · simp at hvl
        · simp at hvl
        · simp at hvl
        · simp at hvl
        · simp at hvl
        · simp at hvl
        · simp at hvl
        · obtain rfl : z0 = (.pointer (some ⟨g, 0, none⟩)) := hvp 0 (by omega)
          obtain rfl : z1 = (.pointer (some ⟨g, 0, none⟩)) := hvp 1 (by omega)
          obtain rfl : z2 = (.pointer (some ⟨g, 7, none⟩)) := hvp 2 (by omega)
          obtain rfl : z3 = (.slice Ar p.recs.length cr) := hvp 3 (by omega)
          obtain rfl : z4 = (.pointer (some ⟨w.heap.size, 4, none⟩)) := hvp 4 (by omega)
          obtain rfl : z5 = (tryV c.by_) := hvp 5 (by omega)
          obtain rfl : z6 = (.tuple #[outV o, .bool is]) := hvp 6 (by omega)
          obtain rfl : z7 = (.tuple #[outV o, .bool is]) := hvp 7 (by omega)
          obtain rfl : z8 = (outV o) := hvp 8 (by omega)
          obtain rfl : z9 = (.bool is) := hvp 9 (by omega)
          have hxo : (⟨fun v w => ∃ gl, v = .pointer (some ⟨gl, 0, none⟩) ∧ w1.heap.size ≤ gl ∧ Row w gl 93 (outCs Out.zero), fun _ _ _ ⟨gl, h1, h2, h3⟩ k => ⟨gl, h1, h2, h3.keep k trivial⟩⟩ : SP).p z10 wR := hvp 10 (by omega)
          clear hvl hvp
          simp only [putAll, Act.put, List.setIfInBounds_toArray, List.set_cons_succ, List.set_cons_zero, List.take_succ_cons, List.take_zero, List.drop_succ_cons, List.drop_zero, List.eraseIdx_cons_succ, List.eraseIdx_cons_zero]
          obtain ⟨gl, rfl, hgl2, hrl⟩ := hxo
          have zl := hrl.lt
          have RL := Lib.hid hrl
          have l0 := hrl.cell 0
          have l1 := hrl.cell 1
          have l2 := hrl.cell 2
          have l3 := hrl.cell 3
          have l4 := hrl.cell 4
          have l5 := hrl.cell 5
          have l6 := hrl.cell 6
          simp only [outCs, Out.zero, List.getElem?_cons_zero, List.getElem?_cons_succ] at l0 l1 l2 l3 l4 l5 l6
          have h0 := hrl.frozen 0
          have h1 := hrl.frozen 1
          have h2 := hrl.frozen 2
          have h3 := hrl.frozen 3
          have h4 := hrl.frozen 4
          have h5 := hrl.frozen 5
          have h6 := hrl.frozen 6
          clear hrl
          go_wp2
          go_meet
          exact ⟨rfl, gl, rfl, RL.out.sets (outCs o) 0, Same.sets' (by omega) (outCs o) 0 hsR⟩
      · intro vs wR hvl hvp hsR
        rcases vs with _ | ⟨z0, _ | ⟨z1, _ | ⟨z2, _ | ⟨z3, _ | ⟨z4, _ | ⟨z5, _ | ⟨z6, _ | ⟨z7, _ | ⟨z8, _ | ⟨z10, _ | ⟨zz, zr⟩⟩⟩⟩⟩⟩⟩⟩⟩⟩⟩
        rotate_right 1
        · simp at hvl
        · simp at hvl
        · simp at hvl
        · simp at hvl
        · simp at hvl
        · simp at hvl
        · simp at hvl
        · simp at hvl
        · simp at hvl
        · simp at hvl
        · simp at hvl
        · obtain rfl : z0 = (.pointer (some ⟨g, 0, none⟩)) := hvp 0 (by omega)
          obtain rfl : z1 = (.pointer (some ⟨g, 0, none⟩)) := hvp 1 (by omega)
          obtain rfl : z2 = (.pointer (some ⟨g, 7, none⟩)) := hvp 2 (by omega)
          obtain rfl : z3 = (.slice Ar p.recs.length cr) := hvp 3 (by omega)
          obtain rfl : z4 = (.pointer (some ⟨w.heap.size, 4, none⟩)) := hvp 4 (by omega)
          obtain rfl : z5 = (tryV c.by_) := hvp 5 (by omega)
          obtain rfl : z6 = (.tuple #[outV o, .bool is]) := hvp 6 (by omega)
          obtain rfl : z7 = (.tuple #[outV o, .bool is]) := hvp 7 (by omega)
          obtain rfl : z8 = (outV o) := hvp 8 (by omega)
          have hxo : (⟨fun v w => ∃ gl, v = .pointer (some ⟨gl, 0, none⟩) ∧ w1.heap.size ≤ gl ∧ Row w gl 93 (outCs Out.zero), fun _ _ _ ⟨gl, h1, h2, h3⟩ k => ⟨gl, h1, h2, h3.keep k trivial⟩⟩ : SP).p z10 wR := hvp 9 (by omega)
          clear hvl hvp
          simp only [putAll, Act.put, List.setIfInBounds_toArray, List.set_cons_succ, List.set_cons_zero, List.take_succ_cons, List.take_zero, List.drop_succ_cons, List.drop_zero, List.eraseIdx_cons_succ, List.eraseIdx_cons_zero]
          obtain ⟨gl, rfl, hgl2, hrl⟩ := hxo
          have zl := hrl.lt
          have RL := Lib.hid hrl
          have l0 := hrl.cell 0
          have l1 := hrl.cell 1
          have l2 := hrl.cell 2
          have l3 := hrl.cell 3
          have l4 := hrl.cell 4
          have l5 := hrl.cell 5
          have l6 := hrl.cell 6
          simp only [outCs, Out.zero, List.getElem?_cons_zero, List.getElem?_cons_succ] at l0 l1 l2 l3 l4 l5 l6
          have h0 := hrl.frozen 0
          have h1 := hrl.frozen 1
          have h2 := hrl.frozen 2
          have h3 := hrl.frozen 3
          have h4 := hrl.frozen 4
          have h5 := hrl.frozen 5
          have h6 := hrl.frozen 6
          clear hrl
          go_wp2
          go_meet
          exact ⟨rfl, gl, rfl, RL.out.sets (outCs o) 0, Same.sets' (by omega) (outCs o) 0 hsR⟩
    case rest =>
      obtain ⟨rfl, gl, rfl, hrl, hSc⟩ := hcut
      have HSw := Lib.hid (HSw.out.trans hSc)
      have Ho1 := Lib.hid (Ho1.out.keepAll hSc)
      have R1 := Lib.hid (R1.out.keep hSc trivial)
      have HP := Lib.hid (HP.out.keep hSc trivial)
      have R0 := Lib.hid (R0.out.keep hSc trivial)
      clear p0 p1 p2 p3 p4 p5 p6 p7 p8 c0 c1 c2 c3 c4 c5 c6 c7 c8 c9 c10 c11 c12 c13 e0 f0 e1 f1 e2 f2 e3 f3 e4 f4 e5 f5 e6 f6 e7 f7 e8 f8 e9 f9 e10 f10 zp z1
      clear gf hSc
      have hp := HP.out.keep (Same.refl (fun _ => True) wc) trivial
      have r0 := R0.out.keep (Same.refl (fun _ => True) wc) trivial
      have r1 := R1.out.keep (Same.refl (fun _ => True) wc) trivial
      have p0 := hp.cell 0
      have p1 := hp.cell 1
      have p2 := hp.cell 2
      have p3 := hp.cell 3
      have p4 := hp.cell 4
      have p5 := hp.cell 5
      have p6 := hp.cell 6
      have p7 := hp.cell 7
      have p8 := hp.cell 8
      simp only [List.getElem?_cons_zero, List.getElem?_cons_succ] at p0 p1 p2 p3 p4 p5 p6 p7 p8
      have c0 := r0.cell 0
      have c1 := r0.cell 1
      have c2 := r0.cell 2
      have c3 := r0.cell 3
      have c4 := r0.cell 4
      have c5 := r0.cell 5
      have c6 := r0.cell 6
      have c7 := r0.cell 7
      have c8 := r0.cell 8
      have c9 := r0.cell 9
      have c10 := r0.cell 10
      have c11 := r0.cell 11
      have c12 := r0.cell 12
      have c13 := r0.cell 13
      simp only [List.getElem?_cons_zero, List.getElem?_cons_succ] at c0 c1 c2 c3 c4 c5 c6 c7 c8 c9 c10 c11 c12 c13
      have e0 := r1.cell 0
      have e1 := r1.cell 1
      have e2 := r1.cell 2
      have e3 := r1.cell 3
      have e4 := r1.cell 4
      have e5 := r1.cell 5
      have e6 := r1.cell 6
      have e7 := r1.cell 7
      have e8 := r1.cell 8
      have e9 := r1.cell 9
      have e10 := r1.cell 10
      simp only [List.getElem?_cons_zero, List.getElem?_cons_succ] at e0 e1 e2 e3 e4 e5 e6 e7 e8 e9 e10
      have f0 := r1.frozen 0
      have f1 := r1.frozen 1
      have f2 := r1.frozen 2
      have f3 := r1.frozen 3
      have f4 := r1.frozen 4
      have f5 := r1.frozen 5
      have f6 := r1.frozen 6
      have f7 := r1.frozen 7
      have f8 := r1.frozen 8
      have f9 := r1.frozen 9
      have f10 := r1.frozen 10
      have zp := hp.lt
      have z1 := r1.lt
      clear hp r0 r1
      cases is
      case true =>
        have HL := Lib.hid (show doesF p c = (p, { ReplyM.zero with yes := o.yes, at_ := o.at_ }) by
          rw [HL0.out]
          unfold decideF
          rw [← Hfo.out]
          rfl)
        have l0 := hrl.cell 0
        have l1 := hrl.cell 1
        have l2 := hrl.cell 2
        have l3 := hrl.cell 3
        have l4 := hrl.cell 4
        have l5 := hrl.cell 5
        have l6 := hrl.cell 6
        simp only [outCs, List.getElem?_cons_zero, List.getElem?_cons_succ] at l0 l1 l2 l3 l4 l5 l6
        have zl := hrl.lt
        clear hrl
        go_wp2
        have hS9 := Same.sets' (S := Sd g (.slice Ar p.recs.length cr) (.slice Ad p.done.length cd)) (w := w) (g := w.heap.size + 1) (by omega) (repCs nilV ({ ReplyM.zero with yes := o.yes, at_ := o.at_ })) 0 (HSw.out.mono fun _ _ _ => trivial)
        have hq9 := Same.sets (S := fun q => q ≠ w.heap.size + 1) (g := w.heap.size + 1) (fun h => h rfl) (repCs nilV ({ ReplyM.zero with yes := o.yes, at_ := o.at_ })) 0 (Same.refl _ wc)
        rw [HL.out]
        exact bodyPost_ret (does_results (r := { ReplyM.zero with yes := o.yes, at_ := o.at_ }) (vp := nilV) (show Row _ _ _ (repCs nilV ({ ReplyM.zero with yes := o.yes, at_ := o.at_ })) from R1.out.sets (repCs nilV ({ ReplyM.zero with yes := o.yes, at_ := o.at_ })) 0) rfl) rfl ⟨_, _, _, _, rfl, HP.out.keep hq9 (by omega), Ho1.out.keepRep R1.out hq9, OwnR.nil _ _, hS9⟩
      have HL := Lib.hid (show doesF p c = ({ p with recs := p.recs ++ [newO c] }, { ReplyM.zero with yes := c.yes, at_ := c.at_ }) by
        rw [HL0.out]
        unfold decideF
        rw [← Hfo.out]
        rfl)
      have HSd := Lib.hid (HSw.out.mono (S' := Sd g (.slice Ar p.recs.length cr) (.slice Ad p.done.length cd)) fun _ _ _ => trivial)
      clear hrl
      go_wp2
      refine wp_region_tail_d (L := [.eq (.pointer (some ⟨g, 0, none⟩)), .eq (.pointer (some ⟨g, 0, none⟩)), .eq (.pointer (some ⟨g, 0, none⟩)), .eq (.pointer (some ⟨g, 7, none⟩)), .eq (.slice Ar p.recs.length cr), .eq (.pointer (some ⟨w.heap.size, 4, none⟩)), .eq (tryV c.by_), .eq (.pointer (some ⟨w.heap.size, 8, none⟩)), .eq (stV c.at_), .eq (.pointer (some ⟨w.heap.size, 11, none⟩)), .eq (.bool c.yes), .eq (outV ⟨c.by_, c.at_, c.yes⟩), .of ⟨fun v w => ∃ gs, v = .slice (some ⟨gs, 0, none⟩) 1 1 ∧ OutR w (fun _ => True) (.slice (some ⟨gs, 0, none⟩) 1 1) [⟨c.by_, c.at_, c.yes⟩], fun _ _ _ ⟨gs, h1, h2⟩ k => ⟨gs, h1, RowR.keepAll h2 k⟩⟩]) 13 0 (by omega) (by kernel_rfl) (by kernel_rfl) rfl rfl rfl rfl rfl rfl ?_ ?_ ?_
      · refine ⟨?_, ?_, ?_, ?_, ?_, ?_, ?_, ?_, ?_, ?_, ?_, ?_, ?_, trivial⟩
        · intro ac wc hs hd hz hf hw K hK
          have e0 : ac.eval (.tmp 0) = (.pointer (some ⟨g, 0, none⟩)) := hf 0 rfl
          clear hd hz hf hw
          simp only [Region.wanted, if_true, Oper.wp, execOp, resolve, List.map_toArray, List.map_cons, List.map_nil, Option.map_some, Option.map_none, e0]
          go_simp
          exact hK _ _ rfl (Same.refl _ _)
        · intro ac wc hs hd hz hf hw K hK
          have e0 : ac.eval (.tmp 0) = (.pointer (some ⟨g, 0, none⟩)) := hf 0 rfl
          clear hd hz hf hw
          simp only [Region.wanted, if_true, Oper.wp, execOp, resolve, List.map_toArray, List.map_cons, List.map_nil, Option.map_some, Option.map_none, e0]
          go_simp
          exact hK _ _ rfl (Same.refl _ _)
        · intro ac wc hs hd hz hf hw K hK
          have e0 : ac.eval (.tmp 40) = (.pointer (some ⟨g, 0, none⟩)) := hw 1 rfl
          clear hd hz hf hw
          simp only [Region.wanted, if_true, Oper.wp, execOp, resolve, List.map_toArray, List.map_cons, List.map_nil, Option.map_some, Option.map_none, e0]
          go_simp
          exact hK _ _ rfl (Same.refl _ _)
        · intro ac wc hs hd hz hf hw K hK
          have e0 : ac.eval (.tmp 41) = (.pointer (some ⟨g, 0, none⟩)) := hw 2 rfl
          clear hd hz hf hw
          simp only [Region.wanted, if_true, Oper.wp, execOp, resolve, List.map_toArray, List.map_cons, List.map_nil, Option.map_some, Option.map_none, e0]
          go_simp
          exact hK _ _ rfl (Same.refl _ _)
        · intro ac wc hs hd hz hf hw K hK
          have e0 : ac.eval (.tmp 42) = (.pointer (some ⟨g, 7, none⟩)) := hw 3 rfl
          have m0 : wc.cell? ⟨g, 7, none⟩ = some (.slice Ar p.recs.length cr) := hs.cell (p := ⟨g, 7, none⟩) trivial p7
          clear hd hz hf hw
          simp only [Region.wanted, if_true, Oper.wp, execOp, resolve, List.map_toArray, List.map_cons, List.map_nil, Option.map_some, Option.map_none, e0]
          go_simp
          exact hK _ _ rfl (Same.refl _ _)
        · intro ac wc hs hd hz hf hw K hK
          have e0 : ac.eval (.tmp 3) = (.pointer (some ⟨w.heap.size, 0, none⟩)) := hf 3 rfl
          clear hd hz hf hw
          simp only [Region.wanted, if_true, Oper.wp, execOp, resolve, List.map_toArray, List.map_cons, List.map_nil, Option.map_some, Option.map_none, e0]
          go_simp
          exact hK _ _ rfl (Same.refl _ _)
        · intro ac wc hs hd hz hf hw K hK
          have e0 : ac.eval (.tmp 44) = (.pointer (some ⟨w.heap.size, 4, none⟩)) := hw 5 rfl
          have m0 : wc.cell? ⟨w.heap.size, 4, none⟩ = some (.int .i64 c.by_.node) := hs.cell (p := ⟨w.heap.size, 4, none⟩) trivial c4
          have m1 : wc.cell? ⟨w.heap.size, 5, none⟩ = some (.int .i64 c.by_.life) := hs.cell (p := ⟨w.heap.size, 5, none⟩) trivial c5
          have m2 : wc.cell? ⟨w.heap.size, 6, none⟩ = some (.int .i64 c.by_.seq) := hs.cell (p := ⟨w.heap.size, 6, none⟩) trivial c6
          have m3 : wc.cell? ⟨w.heap.size, 7, none⟩ = some (.int .i64 c.by_.attempt) := hs.cell (p := ⟨w.heap.size, 7, none⟩) trivial c7
          clear hd hz hf hw
          simp only [Region.wanted, if_true, Oper.wp, execOp, resolve, List.map_toArray, List.map_cons, List.map_nil, Option.map_some, Option.map_none, e0]
          go_simp
          exact hK _ _ rfl (Same.refl _ _)
        · intro ac wc hs hd hz hf hw K hK
          have e0 : ac.eval (.tmp 3) = (.pointer (some ⟨w.heap.size, 0, none⟩)) := hf 3 rfl
          clear hd hz hf hw
          simp only [Region.wanted, if_true, Oper.wp, execOp, resolve, List.map_toArray, List.map_cons, List.map_nil, Option.map_some, Option.map_none, e0]
          go_simp
          exact hK _ _ rfl (Same.refl _ _)
        · intro ac wc hs hd hz hf hw K hK
          have e0 : ac.eval (.tmp 46) = (.pointer (some ⟨w.heap.size, 8, none⟩)) := hw 7 rfl
          have m0 : wc.cell? ⟨w.heap.size, 8, none⟩ = some (.int .i64 c.at_.wall) := hs.cell (p := ⟨w.heap.size, 8, none⟩) trivial c8
          have m1 : wc.cell? ⟨w.heap.size, 9, none⟩ = some (.int .i64 c.at_.tie) := hs.cell (p := ⟨w.heap.size, 9, none⟩) trivial c9
          clear hd hz hf hw
          simp only [Region.wanted, if_true, Oper.wp, execOp, resolve, List.map_toArray, List.map_cons, List.map_nil, Option.map_some, Option.map_none, e0]
          go_simp
          exact hK _ _ rfl (Same.refl _ _)
        · intro ac wc hs hd hz hf hw K hK
          have e0 : ac.eval (.tmp 3) = (.pointer (some ⟨w.heap.size, 0, none⟩)) := hf 3 rfl
          clear hd hz hf hw
          simp only [Region.wanted, if_true, Oper.wp, execOp, resolve, List.map_toArray, List.map_cons, List.map_nil, Option.map_some, Option.map_none, e0]
          go_simp
          exact hK _ _ rfl (Same.refl _ _)
        · intro ac wc hs hd hz hf hw K hK
          have e0 : ac.eval (.tmp 48) = (.pointer (some ⟨w.heap.size, 11, none⟩)) := hw 9 rfl
          have m0 : wc.cell? ⟨w.heap.size, 11, none⟩ = some (.bool c.yes) := hs.cell (p := ⟨w.heap.size, 11, none⟩) trivial c11
          clear hd hz hf hw
          simp only [Region.wanted, if_true, Oper.wp, execOp, resolve, List.map_toArray, List.map_cons, List.map_nil, Option.map_some, Option.map_none, e0]
          go_simp
          exact hK _ _ rfl (Same.refl _ _)
        · intro ac wc hs hd hz hf hw K hK
          have e0 : ac.eval (.tmp 45) = (tryV c.by_) := hw 6 rfl
          have e1 : ac.eval (.tmp 47) = (stV c.at_) := hw 8 rfl
          have e2 : ac.eval (.tmp 49) = (.bool c.yes) := hw 10 rfl
          clear hd hz hf hw
          simp only [Region.wanted, if_true, Oper.wp, execOp, resolve, List.map_toArray, List.map_cons, List.map_nil, Option.map_some, Option.map_none, e0, e1, e2]
          go_simp
          exact hK _ _ rfl (Same.refl _ _)
        · intro ac wc hs hd hz hf hw K hK
          have e0 : ac.eval (.tmp 50) = (outV ⟨c.by_, c.at_, c.yes⟩) := hw 11 rfl
          clear hd hz hf hw
          simp only [Region.wanted, if_true, Oper.wp, execOp, resolve, List.map_toArray, List.map_cons, List.map_nil, Option.map_some, Option.map_none, e0]
          go_simp
          exact hK _ _ ⟨_, rfl, outr_one (Row.new _ _ (outCs ⟨c.by_, c.at_, c.yes⟩))⟩ ((Same.refl _ _).alloc _)
      · intro vs wR hvl hvp hsR
        rcases vs with _ | ⟨z0, _ | ⟨z1, _ | ⟨z2, _ | ⟨z3, _ | ⟨z4, _ | ⟨z5, _ | ⟨z6, _ | ⟨z7, _ | ⟨z8, _ | ⟨z9, _ | ⟨z10, _ | ⟨z11, _ | ⟨z12, _ | ⟨zz, zr⟩⟩⟩⟩⟩⟩⟩⟩⟩⟩⟩⟩⟩⟩
        rotate_right 1
        · simp at hvl
        · simp at hvl
        · simp at hvl
        · simp at hvl
        · simp at hvl
        · simp at hvl
        · simp at hvl
        · simp at hvl
        · simp at hvl
        · simp at hvl
        · simp at hvl
        · simp at hvl
        · simp at hvl
        · simp at hvl
        · obtain rfl : z0 = (.pointer (some ⟨g, 0, none⟩)) := hvp 0 (by omega)
          obtain rfl : z1 = (.pointer (some ⟨g, 0, none⟩)) := hvp 1 (by omega)
          obtain rfl : z2 = (.pointer (some ⟨g, 0, none⟩)) := hvp 2 (by omega)
          obtain rfl : z3 = (.pointer (some ⟨g, 7, none⟩)) := hvp 3 (by omega)
          obtain rfl : z4 = (.slice Ar p.recs.length cr) := hvp 4 (by omega)
          obtain rfl : z5 = (.pointer (some ⟨w.heap.size, 4, none⟩)) := hvp 5 (by omega)
          obtain rfl : z6 = (tryV c.by_) := hvp 6 (by omega)
          obtain rfl : z7 = (.pointer (some ⟨w.heap.size, 8, none⟩)) := hvp 7 (by omega)
          obtain rfl : z8 = (stV c.at_) := hvp 8 (by omega)
          obtain rfl : z9 = (.pointer (some ⟨w.heap.size, 11, none⟩)) := hvp 9 (by omega)
          obtain rfl : z10 = (.bool c.yes) := hvp 10 (by omega)
          obtain rfl : z11 = (outV ⟨c.by_, c.at_, c.yes⟩) := hvp 11 (by omega)
          have hx1 : (⟨fun v w => ∃ gs, v = .slice (some ⟨gs, 0, none⟩) 1 1 ∧ OutR w (fun _ => True) (.slice (some ⟨gs, 0, none⟩) 1 1) [⟨c.by_, c.at_, c.yes⟩], fun _ _ _ ⟨gs, h1, h2⟩ k => ⟨gs, h1, RowR.keepAll h2 k⟩⟩ : SP).p z12 wR := hvp 12 (by omega)
          clear hvl hvp
          simp only [putAll, Act.put, List.setIfInBounds_toArray, List.set_cons_succ, List.set_cons_zero, List.take_succ_cons, List.take_zero, List.drop_succ_cons, List.drop_zero, List.eraseIdx_cons_succ, List.eraseIdx_cons_zero]
          obtain ⟨gs, rfl, hone⟩ := hx1
          have HSd := Lib.hid (HSd.out.trans' hsR fun _ _ _ => trivial)
          have Ho1 := Lib.hid (Ho1.out.keepAll hsR)
          have R1 := Lib.hid (R1.out.keep hsR trivial)
          have HP := Lib.hid (HP.out.keep hsR trivial)
          have R0 := Lib.hid (R0.out.keep hsR trivial)
          have Hone := Lib.hid hone
          have hBR : B ≤ wR.heap.size := by have := HSd.out.size; omega
          clear p0 p1 p2 p3 p4 p5 p6 p7 p8 c0 c1 c2 c3 c4 c5 c6 c7 c8 c9 c10 c11 c12 c13 e0 f0 e1 f1 e2 f2 e3 f3 e4 f4 e5 f5 e6 f6 e7 f7 e8 f8 e9 f9 e10 f10 zp z1
          clear hsR hone
          go_wp2_with (at_builtin; refine stopAt ?_)
          unfold Hid
          refine wpList_appR2 TOut outCs_len outCs_one rfl (.tmp 43) (.tmp 51) rfl rfl rfl Hone.out Ho1.out.recs (by omega) (by simp only [maxLen, List.length_singleton]; omega) (by simp only [List.length_singleton]; omega) ?_
          intro v7 w7 hown7 hS7 hbl7
          obtain ⟨A7, c7, rfl, -, -⟩ := OwnR.form hown7
          rw [List.length_append, List.length_singleton] at hown7 hbl7 ⊢
          have Hown7 := Lib.hid hown7
          obtain ⟨hg1, hg2⟩ := Ho1.out.growR hS7
          have Hg1 := Lib.hid hg1
          have Hg2 := Lib.hid hg2
          have HP7 := Lib.hid (HP.out.keep hS7 (OwnR.neRow Ho1.out.recs HP.out (by decide)))
          have R1 := Lib.hid (R1.out.keep hS7 (OwnR.neRow Ho1.out.recs R1.out (by decide)))
          have R0 := Lib.hid (R0.out.keep hS7 (OwnR.neRow Ho1.out.recs R0.out (by decide)))
          have hap : ∀ k, Value.ownBlock (.slice Ad p.done.length cd) = some k → Value.ownBlock (.slice A7 (p.recs.length + 1) c7) ≠ some k := fun k h1 h2 => by
            rcases hbl7 with h | h
            · exact Ho1.out.apart k h1 (h.symm.trans h2)
            · have := (Ho1.out.done.lt k h1).2
              have e := h.symm.trans h2
              injection e with e
              omega
          have Hap := Lib.hid hap
          have HSd := Lib.hid (HSd.out.trans' hS7 fun q _ hq => hq.2.1)
          have hzw := hS7.size
          clear hown7 hS7 hbl7 hg1 hg2 hap
          have hp := HP7.out
          unfold partCs at hp
          have pv := hp.cell 7
          simp only [List.getElem?_cons_zero, List.getElem?_cons_succ] at pv
          have fv := hp.frozen 7
          have zp := hp.lt
          clear hp
          go_wp2_with (with_reducible refine stopDst 56 rfl ?_)
          unfold Hid
          have hp5 := HP7.out.set_ 7 (.slice A7 (p.recs.length + 1) c7)
          have hS5 : Same (fun q => q ≠ g) w7 (w7.setCell ⟨g, 7, none⟩ (.slice A7 (p.recs.length + 1) c7)) := (Same.refl _ _).setCell (fun _ h => h rfl) _
          clear pv fv zp
          revert hp5 hS5
          generalize w7.setCell _ _ = w9
          intro hp5 hS5
          have HP := Lib.hid (show Row w9 g 77 (partCs (.slice Ac p.cells.length cc) (.slice A7 (p.recs.length + 1) c7) (.slice Ad p.done.length cd) { (p : PartM) with recs := p.recs ++ [newO c] }) from hp5)
          have R1 := Lib.hid (R1.out.keep hS5 (by omega))
          have R0 := Lib.hid (R0.out.keep hS5 (by omega))
          have Ho1 := Lib.hid (show OwnPart w9 B (.slice Ac p.cells.length cc) (.slice A7 (p.recs.length + 1) c7) (.slice Ad p.done.length cd) { (p : PartM) with recs := p.recs ++ [newO c] } from ⟨Hg1.out.keepG HP7.out (by decide) (by decide) hS5, Hown7.out.keepG HP7.out (by decide) hS5, Hg2.out.keepG HP7.out (by decide) hS5, Hap.out⟩)
          have HSd := Lib.hid (HSd.out.trans' hS5 fun q _ hq => hq.1)
          clear hp5 hS5
          have r0 := R0.out
          have r1 := R1.out
          have c0 := r0.cell 0
          have c1 := r0.cell 1
          have c2 := r0.cell 2
          have c3 := r0.cell 3
          have c4 := r0.cell 4
          have c5 := r0.cell 5
          have c6 := r0.cell 6
          have c7 := r0.cell 7
          have c8 := r0.cell 8
          have c9 := r0.cell 9
          have c10 := r0.cell 10
          have c11 := r0.cell 11
          have c12 := r0.cell 12
          have c13 := r0.cell 13
          simp only [List.getElem?_cons_zero, List.getElem?_cons_succ] at c0 c1 c2 c3 c4 c5 c6 c7 c8 c9 c10 c11 c12 c13
          have e0 := r1.cell 0
          have e1 := r1.cell 1
          have e2 := r1.cell 2
          have e3 := r1.cell 3
          have e4 := r1.cell 4
          have e5 := r1.cell 5
          have e6 := r1.cell 6
          have e7 := r1.cell 7
          have e8 := r1.cell 8
          have e9 := r1.cell 9
          have e10 := r1.cell 10
          simp only [List.getElem?_cons_zero, List.getElem?_cons_succ] at e0 e1 e2 e3 e4 e5 e6 e7 e8 e9 e10
          have f0 := r1.frozen 0
          have f1 := r1.frozen 1
          have f2 := r1.frozen 2
          have f3 := r1.frozen 3
          have f4 := r1.frozen 4
          have f5 := r1.frozen 5
          have f6 := r1.frozen 6
          have f7 := r1.frozen 7
          have f8 := r1.frozen 8
          have f9 := r1.frozen 9
          have f10 := r1.frozen 10
          have z1 := r1.lt
          clear r0 r1
          go_wp2
          have hS9 := Same.sets' (S := Sd g (.slice Ar p.recs.length cr) (.slice Ad p.done.length cd)) (w := w) (g := w.heap.size + 1) (by omega) (repCs nilV ({ ReplyM.zero with yes := c.yes, at_ := c.at_ })) 0 HSd.out
          have hq9 := Same.sets (S := fun q => q ≠ w.heap.size + 1) (g := w.heap.size + 1) (fun h => h rfl) (repCs nilV ({ ReplyM.zero with yes := c.yes, at_ := c.at_ })) 0 (Same.refl _ w9)
          rw [HL.out]
          exact bodyPost_ret (does_results (r := { ReplyM.zero with yes := c.yes, at_ := c.at_ }) (vp := nilV) (show Row _ _ _ (repCs nilV ({ ReplyM.zero with yes := c.yes, at_ := c.at_ })) from R1.out.sets (repCs nilV ({ ReplyM.zero with yes := c.yes, at_ := c.at_ })) 0) rfl) rfl ⟨_, _, _, _, rfl, HP.out.keep hq9 (by omega), Ho1.out.keepRep R1.out hq9, OwnR.nil _ _, hS9⟩
      · intro vs wR hvl hvp hsR
        rcases vs with _ | ⟨z1, _ | ⟨z2, _ | ⟨z3, _ | ⟨z4, _ | ⟨z5, _ | ⟨z6, _ | ⟨z7, _ | ⟨z8, _ | ⟨z9, _ | ⟨z10, _ | ⟨z11, _ | ⟨z12, _ | ⟨zz, zr⟩⟩⟩⟩⟩⟩⟩⟩⟩⟩⟩⟩⟩
        rotate_right 1
        · simp at hvl
        · simp at hvl
        · simp at hvl
        · simp at hvl
        · simp at hvl
        · simp at hvl
        · simp at hvl
        · simp at hvl
        · simp at hvl
        · simp at hvl
        · simp at hvl
        · simp at hvl
        · simp at hvl
        · obtain rfl : z1 = (.pointer (some ⟨g, 0, none⟩)) := hvp 0 (by omega)
          obtain rfl : z2 = (.pointer (some ⟨g, 0, none⟩)) := hvp 1 (by omega)
          obtain rfl : z3 = (.pointer (some ⟨g, 7, none⟩)) := hvp 2 (by omega)
          obtain rfl : z4 = (.slice Ar p.recs.length cr) := hvp 3 (by omega)
          obtain rfl : z5 = (.pointer (some ⟨w.heap.size, 4, none⟩)) := hvp 4 (by omega)
          obtain rfl : z6 = (tryV c.by_) := hvp 5 (by omega)
          obtain rfl : z7 = (.pointer (some ⟨w.heap.size, 8, none⟩)) := hvp 6 (by omega)
          obtain rfl : z8 = (stV c.at_) := hvp 7 (by omega)
          obtain rfl : z9 = (.pointer (some ⟨w.heap.size, 11, none⟩)) := hvp 8 (by omega)
          obtain rfl : z10 = (.bool c.yes) := hvp 9 (by omega)
          obtain rfl : z11 = (outV ⟨c.by_, c.at_, c.yes⟩) := hvp 10 (by omega)
          have hx1 : (⟨fun v w => ∃ gs, v = .slice (some ⟨gs, 0, none⟩) 1 1 ∧ OutR w (fun _ => True) (.slice (some ⟨gs, 0, none⟩) 1 1) [⟨c.by_, c.at_, c.yes⟩], fun _ _ _ ⟨gs, h1, h2⟩ k => ⟨gs, h1, RowR.keepAll h2 k⟩⟩ : SP).p z12 wR := hvp 11 (by omega)
          clear hvl hvp
          simp only [putAll, Act.put, List.setIfInBounds_toArray, List.set_cons_succ, List.set_cons_zero, List.take_succ_cons, List.take_zero, List.drop_succ_cons, List.drop_zero, List.eraseIdx_cons_succ, List.eraseIdx_cons_zero]
          obtain ⟨gs, rfl, hone⟩ := hx1
          have HSd := Lib.hid (HSd.out.trans' hsR fun _ _ _ => trivial)
          have Ho1 := Lib.hid (Ho1.out.keepAll hsR)
          have R1 := Lib.hid (R1.out.keep hsR trivial)
          have HP := Lib.hid (HP.out.keep hsR trivial)
          have R0 := Lib.hid (R0.out.keep hsR trivial)
          have Hone := Lib.hid hone
          have hBR : B ≤ wR.heap.size := by have := HSd.out.size; omega
          clear p0 p1 p2 p3 p4 p5 p6 p7 p8 c0 c1 c2 c3 c4 c5 c6 c7 c8 c9 c10 c11 c12 c13 e0 f0 e1 f1 e2 f2 e3 f3 e4 f4 e5 f5 e6 f6 e7 f7 e8 f8 e9 f9 e10 f10 zp z1
          clear hsR hone
          go_wp2_with (at_builtin; refine stopAt ?_)
          unfold Hid
          refine wpList_appR2 TOut outCs_len outCs_one rfl (.tmp 43) (.tmp 51) rfl rfl rfl Hone.out Ho1.out.recs (by omega) (by simp only [maxLen, List.length_singleton]; omega) (by simp only [List.length_singleton]; omega) ?_
          intro v7 w7 hown7 hS7 hbl7
          obtain ⟨A7, c7, rfl, -, -⟩ := OwnR.form hown7
          rw [List.length_append, List.length_singleton] at hown7 hbl7 ⊢
          have Hown7 := Lib.hid hown7
          obtain ⟨hg1, hg2⟩ := Ho1.out.growR hS7
          have Hg1 := Lib.hid hg1
          have Hg2 := Lib.hid hg2
          have HP7 := Lib.hid (HP.out.keep hS7 (OwnR.neRow Ho1.out.recs HP.out (by decide)))
          have R1 := Lib.hid (R1.out.keep hS7 (OwnR.neRow Ho1.out.recs R1.out (by decide)))
          have R0 := Lib.hid (R0.out.keep hS7 (OwnR.neRow Ho1.out.recs R0.out (by decide)))
          have hap : ∀ k, Value.ownBlock (.slice Ad p.done.length cd) = some k → Value.ownBlock (.slice A7 (p.recs.length + 1) c7) ≠ some k := fun k h1 h2 => by
            rcases hbl7 with h | h
            · exact Ho1.out.apart k h1 (h.symm.trans h2)
            · have := (Ho1.out.done.lt k h1).2
              have e := h.symm.trans h2
              injection e with e
              omega
          have Hap := Lib.hid hap
          have HSd := Lib.hid (HSd.out.trans' hS7 fun q _ hq => hq.2.1)
          have hzw := hS7.size
          clear hown7 hS7 hbl7 hg1 hg2 hap
          have hp := HP7.out
          unfold partCs at hp
          have pv := hp.cell 7
          simp only [List.getElem?_cons_zero, List.getElem?_cons_succ] at pv
          have fv := hp.frozen 7
          have zp := hp.lt
          clear hp
          go_wp2_with (with_reducible refine stopDst 56 rfl ?_)
          unfold Hid
          have hp5 := HP7.out.set_ 7 (.slice A7 (p.recs.length + 1) c7)
          have hS5 : Same (fun q => q ≠ g) w7 (w7.setCell ⟨g, 7, none⟩ (.slice A7 (p.recs.length + 1) c7)) := (Same.refl _ _).setCell (fun _ h => h rfl) _
          clear pv fv zp
          revert hp5 hS5
          generalize w7.setCell _ _ = w9
          intro hp5 hS5
          have HP := Lib.hid (show Row w9 g 77 (partCs (.slice Ac p.cells.length cc) (.slice A7 (p.recs.length + 1) c7) (.slice Ad p.done.length cd) { (p : PartM) with recs := p.recs ++ [newO c] }) from hp5)
          have R1 := Lib.hid (R1.out.keep hS5 (by omega))
          have R0 := Lib.hid (R0.out.keep hS5 (by omega))
          have Ho1 := Lib.hid (show OwnPart w9 B (.slice Ac p.cells.length cc) (.slice A7 (p.recs.length + 1) c7) (.slice Ad p.done.length cd) { (p : PartM) with recs := p.recs ++ [newO c] } from ⟨Hg1.out.keepG HP7.out (by decide) (by decide) hS5, Hown7.out.keepG HP7.out (by decide) hS5, Hg2.out.keepG HP7.out (by decide) hS5, Hap.out⟩)
          have HSd := Lib.hid (HSd.out.trans' hS5 fun q _ hq => hq.1)
          clear hp5 hS5
          have r0 := R0.out
          have r1 := R1.out
          have c0 := r0.cell 0
          have c1 := r0.cell 1
          have c2 := r0.cell 2
          have c3 := r0.cell 3
          have c4 := r0.cell 4
          have c5 := r0.cell 5
          have c6 := r0.cell 6
          have c7 := r0.cell 7
          have c8 := r0.cell 8
          have c9 := r0.cell 9
          have c10 := r0.cell 10
          have c11 := r0.cell 11
          have c12 := r0.cell 12
          have c13 := r0.cell 13
          simp only [List.getElem?_cons_zero, List.getElem?_cons_succ] at c0 c1 c2 c3 c4 c5 c6 c7 c8 c9 c10 c11 c12 c13
          have e0 := r1.cell 0
          have e1 := r1.cell 1
          have e2 := r1.cell 2
          have e3 := r1.cell 3
          have e4 := r1.cell 4
          have e5 := r1.cell 5
          have e6 := r1.cell 6
          have e7 := r1.cell 7
          have e8 := r1.cell 8
          have e9 := r1.cell 9
          have e10 := r1.cell 10
          simp only [List.getElem?_cons_zero, List.getElem?_cons_succ] at e0 e1 e2 e3 e4 e5 e6 e7 e8 e9 e10
          have f0 := r1.frozen 0
          have f1 := r1.frozen 1
          have f2 := r1.frozen 2
          have f3 := r1.frozen 3
          have f4 := r1.frozen 4
          have f5 := r1.frozen 5
          have f6 := r1.frozen 6
          have f7 := r1.frozen 7
          have f8 := r1.frozen 8
          have f9 := r1.frozen 9
          have f10 := r1.frozen 10
          have z1 := r1.lt
          clear r0 r1
          go_wp2
          have hS9 := Same.sets' (S := Sd g (.slice Ar p.recs.length cr) (.slice Ad p.done.length cd)) (w := w) (g := w.heap.size + 1) (by omega) (repCs nilV ({ ReplyM.zero with yes := c.yes, at_ := c.at_ })) 0 HSd.out
          have hq9 := Same.sets (S := fun q => q ≠ w.heap.size + 1) (g := w.heap.size + 1) (fun h => h rfl) (repCs nilV ({ ReplyM.zero with yes := c.yes, at_ := c.at_ })) 0 (Same.refl _ w9)
          rw [HL.out]
          exact bodyPost_ret (does_results (r := { ReplyM.zero with yes := c.yes, at_ := c.at_ }) (vp := nilV) (show Row _ _ _ (repCs nilV ({ ReplyM.zero with yes := c.yes, at_ := c.at_ })) from R1.out.sets (repCs nilV ({ ReplyM.zero with yes := c.yes, at_ := c.at_ })) 0) rfl) rfl ⟨_, _, _, _, rfl, HP.out.keep hq9 (by omega), Ho1.out.keepRep R1.out hq9, OwnR.nil _ _, hS9⟩
  · have hk2 : ¬ c.kind = 2 := by simpa using (‹(c.kind == 2) = false›)
    have hk3 : ¬ c.kind = 3 := by simpa using (‹(c.kind == 3) = false›)
    have hk4 : ¬ c.kind = 4 := by simpa using (‹(c.kind == 4) = false›)
    have hk5 : c.kind = 5 := by simpa using (‹(c.kind == 5) = true›)
    have HL0 := Lib.hid (show doesF p c = settleF p c by unfold doesF; rw [if_neg hk2, if_neg hk3, if_neg hk4, if_pos hk5])
    clear hk2 hk3 hk4 hk5
    have HSd := Lib.hid (HSw.out.mono (S' := Sd g (.slice Ar p.recs.length cr) (.slice Ad p.done.length cd)) fun _ _ _ => trivial)
    have gt := fun W (hW : Same (fun _ => True) w1 W) => mvsettle_any (.slice Ac p.cells.length cc) p.cells c.by_ c.yes _ W (Ho1.out.cells.reads.keepAll hW) hcl (Hf.out.vers (by omega)) Hf.out.sort
    refine wp_region_tail_lit (L := [.eq (.pointer (some ⟨g, 0, none⟩)), .eq (.pointer (some ⟨g, 0, none⟩)), .eq (.pointer (some ⟨g, 0, none⟩)), .eq (.pointer (some ⟨g, 6, none⟩)), .eq (.slice Ac p.cells.length cc), .eq (.pointer (some ⟨w.heap.size, 4, none⟩)), .eq (tryV c.by_), .eq (.pointer (some ⟨w.heap.size, 11, none⟩)), .eq (.bool c.yes), .of ⟨fun v w => OwnC w B v (setlF p.cells c.by_ c.yes), fun _ _ _ h k => h.keepAll k⟩]) 10 (by kernel_rfl) (by kernel_rfl) rfl rfl rfl ?_ ?_
    · refine ⟨?_, ?_, ?_, ?_, ?_, ?_, ?_, ?_, ?_, ?_, trivial⟩
      · intro ac wc hs hd hz hf hw K hK
        have e0 : ac.eval (.tmp 0) = (.pointer (some ⟨g, 0, none⟩)) := hf 0 rfl
        clear hd hz hf hw
        simp only [Region.wanted, if_true, Oper.wp, execOp, resolve, List.map_toArray, List.map_cons, List.map_nil, Option.map_some, Option.map_none, e0]
        go_simp
        exact hK _ _ rfl (Same.refl _ _)
      · intro ac wc hs hd hz hf hw K hK
        have e0 : ac.eval (.tmp 0) = (.pointer (some ⟨g, 0, none⟩)) := hf 0 rfl
        clear hd hz hf hw
        simp only [Region.wanted, if_true, Oper.wp, execOp, resolve, List.map_toArray, List.map_cons, List.map_nil, Option.map_some, Option.map_none, e0]
        go_simp
        exact hK _ _ rfl (Same.refl _ _)
      · intro ac wc hs hd hz hf hw K hK
        have e0 : ac.eval (.tmp 63) = (.pointer (some ⟨g, 0, none⟩)) := hw 1 rfl
        clear hd hz hf hw
        simp only [Region.wanted, if_true, Oper.wp, execOp, resolve, List.map_toArray, List.map_cons, List.map_nil, Option.map_some, Option.map_none, e0]
        go_simp
        exact hK _ _ rfl (Same.refl _ _)
      · intro ac wc hs hd hz hf hw K hK
        have e0 : ac.eval (.tmp 64) = (.pointer (some ⟨g, 0, none⟩)) := hw 2 rfl
        clear hd hz hf hw
        simp only [Region.wanted, if_true, Oper.wp, execOp, resolve, List.map_toArray, List.map_cons, List.map_nil, Option.map_some, Option.map_none, e0]
        go_simp
        exact hK _ _ rfl (Same.refl _ _)
      · intro ac wc hs hd hz hf hw K hK
        have e0 : ac.eval (.tmp 65) = (.pointer (some ⟨g, 6, none⟩)) := hw 3 rfl
        have m0 : wc.cell? ⟨g, 6, none⟩ = some (.slice Ac p.cells.length cc) := hs.cell (p := ⟨g, 6, none⟩) trivial p6
        clear hd hz hf hw
        simp only [Region.wanted, if_true, Oper.wp, execOp, resolve, List.map_toArray, List.map_cons, List.map_nil, Option.map_some, Option.map_none, e0]
        go_simp
        exact hK _ _ rfl (Same.refl _ _)
      · intro ac wc hs hd hz hf hw K hK
        have e0 : ac.eval (.tmp 3) = (.pointer (some ⟨w.heap.size, 0, none⟩)) := hf 3 rfl
        clear hd hz hf hw
        simp only [Region.wanted, if_true, Oper.wp, execOp, resolve, List.map_toArray, List.map_cons, List.map_nil, Option.map_some, Option.map_none, e0]
        go_simp
        exact hK _ _ rfl (Same.refl _ _)
      · intro ac wc hs hd hz hf hw K hK
        have e0 : ac.eval (.tmp 67) = (.pointer (some ⟨w.heap.size, 4, none⟩)) := hw 5 rfl
        have m0 : wc.cell? ⟨w.heap.size, 4, none⟩ = some (.int .i64 c.by_.node) := hs.cell (p := ⟨w.heap.size, 4, none⟩) trivial c4
        have m1 : wc.cell? ⟨w.heap.size, 5, none⟩ = some (.int .i64 c.by_.life) := hs.cell (p := ⟨w.heap.size, 5, none⟩) trivial c5
        have m2 : wc.cell? ⟨w.heap.size, 6, none⟩ = some (.int .i64 c.by_.seq) := hs.cell (p := ⟨w.heap.size, 6, none⟩) trivial c6
        have m3 : wc.cell? ⟨w.heap.size, 7, none⟩ = some (.int .i64 c.by_.attempt) := hs.cell (p := ⟨w.heap.size, 7, none⟩) trivial c7
        clear hd hz hf hw
        simp only [Region.wanted, if_true, Oper.wp, execOp, resolve, List.map_toArray, List.map_cons, List.map_nil, Option.map_some, Option.map_none, e0]
        go_simp
        exact hK _ _ rfl (Same.refl _ _)
      · intro ac wc hs hd hz hf hw K hK
        have e0 : ac.eval (.tmp 3) = (.pointer (some ⟨w.heap.size, 0, none⟩)) := hf 3 rfl
        clear hd hz hf hw
        simp only [Region.wanted, if_true, Oper.wp, execOp, resolve, List.map_toArray, List.map_cons, List.map_nil, Option.map_some, Option.map_none, e0]
        go_simp
        exact hK _ _ rfl (Same.refl _ _)
      · intro ac wc hs hd hz hf hw K hK
        have e0 : ac.eval (.tmp 69) = (.pointer (some ⟨w.heap.size, 11, none⟩)) := hw 7 rfl
        have m0 : wc.cell? ⟨w.heap.size, 11, none⟩ = some (.bool c.yes) := hs.cell (p := ⟨w.heap.size, 11, none⟩) trivial c11
        clear hd hz hf hw
        simp only [Region.wanted, if_true, Oper.wp, execOp, resolve, List.map_toArray, List.map_cons, List.map_nil, Option.map_some, Option.map_none, e0]
        go_simp
        exact hK _ _ rfl (Same.refl _ _)
      · intro ac wc hs hd hz hf hw K hK
        have e0 : ac.eval (.tmp 66) = (.slice Ac p.cells.length cc) := hw 4 rfl
        have e1 : ac.eval (.tmp 68) = (tryV c.by_) := hw 6 rfl
        have e2 : ac.eval (.tmp 70) = (.bool c.yes) := hw 8 rfl
        clear hd hz hf hw
        simp only [Region.wanted, if_true, Oper.wp, execOp, resolve, List.map_toArray, List.map_cons, List.map_nil, Option.map_some, Option.map_none, e0, e1, e2]
        go_simp
        refine (gt wc hs).mono ?_
        rintro e wd ⟨u, rfl, hown, hS⟩
        exact hK _ _ (hown.lower (by have := hs.size; omega)) hS
    · intro vs wR hvl hvp hsR
      rcases vs with _ | ⟨z0, _ | ⟨z1, _ | ⟨z2, _ | ⟨z3, _ | ⟨z4, _ | ⟨z5, _ | ⟨z6, _ | ⟨z7, _ | ⟨z8, _ | ⟨z9, _ | ⟨zz, zr⟩⟩⟩⟩⟩⟩⟩⟩⟩⟩⟩
      rotate_right 1
      · simp at hvl
      · simp at hvl
      · simp at hvl
      · simp at hvl
      · simp at hvl
      · simp at hvl
      · simp at hvl
      · simp at hvl
      · simp at hvl
      · simp at hvl
      · simp at hvl
      · obtain rfl : z0 = (.pointer (some ⟨g, 0, none⟩)) := hvp 0 (by omega)
        obtain rfl : z1 = (.pointer (some ⟨g, 0, none⟩)) := hvp 1 (by omega)
        obtain rfl : z2 = (.pointer (some ⟨g, 0, none⟩)) := hvp 2 (by omega)
        obtain rfl : z3 = (.pointer (some ⟨g, 6, none⟩)) := hvp 3 (by omega)
        obtain rfl : z4 = (.slice Ac p.cells.length cc) := hvp 4 (by omega)
        obtain rfl : z5 = (.pointer (some ⟨w.heap.size, 4, none⟩)) := hvp 5 (by omega)
        obtain rfl : z6 = (tryV c.by_) := hvp 6 (by omega)
        obtain rfl : z7 = (.pointer (some ⟨w.heap.size, 11, none⟩)) := hvp 7 (by omega)
        obtain rfl : z8 = (.bool c.yes) := hvp 8 (by omega)
        have hxc : (⟨fun v w => OwnC w B v (setlF p.cells c.by_ c.yes), fun _ _ _ h k => h.keepAll k⟩ : SP).p z9 wR := hvp 9 (by omega)
        clear hvl hvp
        simp only [putAll, Act.put, List.setIfInBounds_toArray, List.set_cons_succ, List.set_cons_zero, List.take_succ_cons, List.take_zero, List.drop_succ_cons, List.drop_zero, List.eraseIdx_cons_succ, List.eraseIdx_cons_zero]
        have HSd := Lib.hid (HSd.out.trans' hsR fun _ _ _ => trivial)
        have Ho1 := Lib.hid (Ho1.out.keepAll hsR)
        have R1 := Lib.hid (R1.out.keep hsR trivial)
        have HP := Lib.hid (HP.out.keep hsR trivial)
        have R0 := Lib.hid (R0.out.keep hsR trivial)
        clear p0 p1 p2 p3 p4 p5 p6 p7 p8 c0 c1 c2 c3 c4 c5 c6 c7 c8 c9 c10 c11 c12 c13 e0 f0 e1 f1 e2 f2 e3 f3 e4 f4 e5 f5 e6 f6 e7 f7 e8 f8 e9 f9 e10 f10 zp z1
        clear hsR
        obtain ⟨Ay, ny, cy, rfl, -, -⟩ := hxc.form3
        have HXC := Lib.hid hxc
        clear hxc gt
        have hp := HP.out
        unfold partCs at hp
        have pv := hp.cell 6
        simp only [List.getElem?_cons_zero, List.getElem?_cons_succ] at pv
        have fv := hp.frozen 6
        have zp := hp.lt
        clear hp
        go_wp2
        have hp5 := HP.out.set_ 6 (.slice Ay ny cy)
        have hS5 : Same (fun q => q ≠ g) wR (wR.setCell ⟨g, 6, none⟩ (.slice Ay ny cy)) := (Same.refl _ _).setCell (fun _ h => h rfl) _
        clear pv fv zp
        revert hp5 hS5
        generalize wR.setCell _ _ = w8
        intro hp5 hS5
        have hPR := HP.out
        have HP := Lib.hid (show Row w8 g 77 (partCs (.slice Ay ny cy) (.slice Ar p.recs.length cr) (.slice Ad p.done.length cd) { p with cells := setlF p.cells c.by_ c.yes }) from hp5)
        have R1 := Lib.hid (R1.out.keep hS5 (by omega))
        have R0 := Lib.hid (R0.out.keep hS5 (by omega))
        have Ho1 := Lib.hid (show OwnPart w8 B (.slice Ay ny cy) (.slice Ar p.recs.length cr) (.slice Ad p.done.length cd) { p with cells := setlF p.cells c.by_ c.yes } from ⟨HXC.out.keepG hPR (by decide) (by decide) hS5, OwnR.keepG Ho1.out.recs hPR (by decide) hS5, OwnR.keepG Ho1.out.done hPR (by decide) hS5, Ho1.out.apart⟩)
        have HSd := Lib.hid (HSd.out.trans' hS5 fun q _ hq => hq.1)
        have hz5 := hS5.size
        clear hp5 hS5 hPR
        have hp := HP.out.keep (Same.refl (fun _ => True) w8) trivial
        unfold partCs at hp
        have r0 := R0.out.keep (Same.refl (fun _ => True) w8) trivial
        have r1 := R1.out.keep (Same.refl (fun _ => True) w8) trivial
        have p0 := hp.cell 0
        have p1 := hp.cell 1
        have p2 := hp.cell 2
        have p3 := hp.cell 3
        have p4 := hp.cell 4
        have p5 := hp.cell 5
        have p6 := hp.cell 6
        have p7 := hp.cell 7
        have p8 := hp.cell 8
        simp only [List.getElem?_cons_zero, List.getElem?_cons_succ] at p0 p1 p2 p3 p4 p5 p6 p7 p8
        have c0 := r0.cell 0
        have c1 := r0.cell 1
        have c2 := r0.cell 2
        have c3 := r0.cell 3
        have c4 := r0.cell 4
        have c5 := r0.cell 5
        have c6 := r0.cell 6
        have c7 := r0.cell 7
        have c8 := r0.cell 8
        have c9 := r0.cell 9
        have c10 := r0.cell 10
        have c11 := r0.cell 11
        have c12 := r0.cell 12
        have c13 := r0.cell 13
        simp only [List.getElem?_cons_zero, List.getElem?_cons_succ] at c0 c1 c2 c3 c4 c5 c6 c7 c8 c9 c10 c11 c12 c13
        have e0 := r1.cell 0
        have e1 := r1.cell 1
        have e2 := r1.cell 2
        have e3 := r1.cell 3
        have e4 := r1.cell 4
        have e5 := r1.cell 5
        have e6 := r1.cell 6
        have e7 := r1.cell 7
        have e8 := r1.cell 8
        have e9 := r1.cell 9
        have e10 := r1.cell 10
        simp only [List.getElem?_cons_zero, List.getElem?_cons_succ] at e0 e1 e2 e3 e4 e5 e6 e7 e8 e9 e10
        have f0 := r1.frozen 0
        have f1 := r1.frozen 1
        have f2 := r1.frozen 2
        have f3 := r1.frozen 3
        have f4 := r1.frozen 4
        have f5 := r1.frozen 5
        have f6 := r1.frozen 6
        have f7 := r1.frozen 7
        have f8 := r1.frozen 8
        have f9 := r1.frozen 9
        have f10 := r1.frozen 10
        have zp := hp.lt
        have z1 := r1.lt
        clear hp r0 r1
        have gf := fun W (hW : Same (fun _ => True) w8 W) => find_any (.slice Ad p.done.length cd) p.done c.by_ _ W (RowR.keepAll ((OwnR.wr Ho1.out.done).row outCs_len) hW)
        obtain ⟨⟨o, is⟩, hfo⟩ : ∃ r, r = findO p.done c.by_ := ⟨_, rfl⟩
        rw [← hfo] at gf
        have Hfo := Lib.hid hfo
        clear hfo
        go_cut [7, 8] from 9 to 156 (fun v5 v6 wx => v6 = .bool is ∧ ∃ gl, v5 = .pointer (some ⟨gl, 0, none⟩) ∧ Row wx gl 93 (outCs o) ∧ Same (fun _ => True) w8 wx)
        case first =>
          refine wp_region_tail_d (L := [.eq (.pointer (some ⟨g, 0, none⟩)), .eq (.pointer (some ⟨g, 0, none⟩)), .eq (.pointer (some ⟨g, 8, none⟩)), .eq (.slice Ad p.done.length cd), .eq (.pointer (some ⟨w.heap.size, 4, none⟩)), .eq (tryV c.by_), .eq (.tuple #[outV o, .bool is]), .eq (.tuple #[outV o, .bool is]), .eq (outV o), .eq (.bool is), .of ⟨fun v w => ∃ gl, v = .pointer (some ⟨gl, 0, none⟩) ∧ w8.heap.size ≤ gl ∧ Row w gl 93 (outCs Out.zero), fun _ _ _ ⟨gl, h1, h2, h3⟩ k => ⟨gl, h1, h2, h3.keep k trivial⟩⟩]) 11 9 (by omega) (by kernel_rfl) (by kernel_rfl) rfl rfl rfl rfl rfl rfl ?_ ?_ ?_
          · refine ⟨?_, ?_, ?_, ?_, ?_, ?_, ?_, ?_, ?_, ?_, ?_, trivial⟩
            · intro ac wc hs hd hz hf hw K hK
              have e0 : ac.eval (.tmp 0) = (.pointer (some ⟨g, 0, none⟩)) := hf 0 rfl
              clear hd hz hf hw
              simp only [Region.wanted, if_true, Oper.wp, execOp, resolve, List.map_toArray, List.map_cons, List.map_nil, Option.map_some, Option.map_none, e0]
              go_simp
              exact hK _ _ rfl (Same.refl _ _)
            · intro ac wc hs hd hz hf hw K hK
              have e0 : ac.eval (.tmp 75) = (.pointer (some ⟨g, 0, none⟩)) := hw 0 rfl
              clear hd hz hf hw
              simp only [Region.wanted, if_true, Oper.wp, execOp, resolve, List.map_toArray, List.map_cons, List.map_nil, Option.map_some, Option.map_none, e0]
              go_simp
              exact hK _ _ rfl (Same.refl _ _)
            · intro ac wc hs hd hz hf hw K hK
              have e0 : ac.eval (.tmp 76) = (.pointer (some ⟨g, 0, none⟩)) := hw 1 rfl
              clear hd hz hf hw
              simp only [Region.wanted, if_true, Oper.wp, execOp, resolve, List.map_toArray, List.map_cons, List.map_nil, Option.map_some, Option.map_none, e0]
              go_simp
              exact hK _ _ rfl (Same.refl _ _)
            · intro ac wc hs hd hz hf hw K hK
              have e0 : ac.eval (.tmp 77) = (.pointer (some ⟨g, 8, none⟩)) := hw 2 rfl
              have m0 : wc.cell? ⟨g, 8, none⟩ = some (.slice Ad p.done.length cd) := hs.cell (p := ⟨g, 8, none⟩) trivial p8
              clear hd hz hf hw
              simp only [Region.wanted, if_true, Oper.wp, execOp, resolve, List.map_toArray, List.map_cons, List.map_nil, Option.map_some, Option.map_none, e0]
              go_simp
              exact hK _ _ rfl (Same.refl _ _)
            · intro ac wc hs hd hz hf hw K hK
              have e0 : ac.eval (.tmp 3) = (.pointer (some ⟨w.heap.size, 0, none⟩)) := hf 3 rfl
              clear hd hz hf hw
              simp only [Region.wanted, if_true, Oper.wp, execOp, resolve, List.map_toArray, List.map_cons, List.map_nil, Option.map_some, Option.map_none, e0]
              go_simp
              exact hK _ _ rfl (Same.refl _ _)
            · intro ac wc hs hd hz hf hw K hK
              have e0 : ac.eval (.tmp 79) = (.pointer (some ⟨w.heap.size, 4, none⟩)) := hw 4 rfl
              have m0 : wc.cell? ⟨w.heap.size, 4, none⟩ = some (.int .i64 c.by_.node) := hs.cell (p := ⟨w.heap.size, 4, none⟩) trivial c4
              have m1 : wc.cell? ⟨w.heap.size, 5, none⟩ = some (.int .i64 c.by_.life) := hs.cell (p := ⟨w.heap.size, 5, none⟩) trivial c5
              have m2 : wc.cell? ⟨w.heap.size, 6, none⟩ = some (.int .i64 c.by_.seq) := hs.cell (p := ⟨w.heap.size, 6, none⟩) trivial c6
              have m3 : wc.cell? ⟨w.heap.size, 7, none⟩ = some (.int .i64 c.by_.attempt) := hs.cell (p := ⟨w.heap.size, 7, none⟩) trivial c7
              clear hd hz hf hw
              simp only [Region.wanted, if_true, Oper.wp, execOp, resolve, List.map_toArray, List.map_cons, List.map_nil, Option.map_some, Option.map_none, e0]
              go_simp
              exact hK _ _ rfl (Same.refl _ _)
            · intro ac wc hs hd hz hf hw K hK
              have e0 : ac.eval (.tmp 78) = (.slice Ad p.done.length cd) := hw 3 rfl
              have e1 : ac.eval (.tmp 80) = (tryV c.by_) := hw 5 rfl
              clear hd hz hf hw
              simp only [Region.wanted, if_true, Oper.wp, execOp, resolve, List.map_toArray, List.map_cons, List.map_nil, Option.map_some, Option.map_none, e0, e1]
              go_simp
              refine (gf wc hs).mono ?_
              rintro e wd ⟨rfl, hs2⟩
              exact hK _ _ rfl hs2
            · intro ac wc hs hd hz hf hw K hK
              have e0 : ac.eval (.tmp 81) = (.tuple #[outV o, .bool is]) := hw 6 rfl
              clear hd hz hf hw
              simp only [Region.wanted, if_true, Oper.wp, execOp, resolve, List.map_toArray, List.map_cons, List.map_nil, Option.map_some, Option.map_none, e0]
              go_simp
              exact hK _ _ rfl (Same.refl _ _)
            · intro ac wc hs hd hz hf hw K hK
              have e0 : ac.eval (.tmp 74) = (.tuple #[outV o, .bool is]) := hw 7 rfl
              clear hd hz hf hw
              simp only [Region.wanted, if_true, Oper.wp, execOp, resolve, List.map_toArray, List.map_cons, List.map_nil, Option.map_some, Option.map_none, e0]
              go_simp
              exact hK _ _ rfl (Same.refl _ _)
            · intro ac wc hs hd hz hf hw K hK
              have e0 : ac.eval (.tmp 74) = (.tuple #[outV o, .bool is]) := hw 7 rfl
              clear hd hz hf hw
              simp only [Region.wanted, if_true, Oper.wp, execOp, resolve, List.map_toArray, List.map_cons, List.map_nil, Option.map_some, Option.map_none, e0]
              go_simp
              exact hK _ _ rfl (Same.refl _ _)
            · intro ac wc hs hd hz hf hw K hK
              clear hd hz hf hw
              simp only [Region.wanted, if_true, Oper.wp, execOp, resolve, List.map_toArray, List.map_cons, List.map_nil, Option.map_some, Option.map_none]
              go_simp
              exact hK _ _ ⟨_, rfl, hs.size, Row.new _ _ (outCs Out.zero)⟩ ((Same.refl _ _).alloc _)
          · intro vs wR hvl hvp hsR
            rcases vs with _ | ⟨z0, _ | ⟨z1, _ | ⟨z2, _ | ⟨z3, _ | ⟨z4, _ | ⟨z5, _ | ⟨z6, _ | ⟨z7, _ | ⟨z8, _ | ⟨z9, _ | ⟨z10, _ | ⟨zz, zr⟩⟩⟩⟩⟩⟩⟩⟩⟩⟩⟩⟩
            rotate_right 1
            · simp at hvl
            · simp at hvl
            · simp at hvl
            · simp at hvl
            · simp at hvl
            · simp at hvl
            · simp at hvl
            · simp at hvl
            · simp at hvl
            · simp at hvl
            · simp at hvl
            · simp at hvl
            · obtain rfl : z0 = (.pointer (some ⟨g, 0, none⟩)) := hvp 0 (by omega)
              obtain rfl : z1 = (.pointer (some ⟨g, 0, none⟩)) := hvp 1 (by omega)
              obtain rfl : z2 = (.pointer (some ⟨g, 8, none⟩)) := hvp 2 (by omega)
              obtain rfl : z3 = (.slice Ad p.done.length cd) := hvp 3 (by omega)
              obtain rfl : z4 = (.pointer (some ⟨w.heap.size, 4, none⟩)) := hvp 4 (by omega)
              obtain rfl : z5 = (tryV c.by_) := hvp 5 (by omega)
              obtain rfl : z6 = (.tuple #[outV o, .bool is]) := hvp 6 (by omega)
              obtain rfl : z7 = (.tuple #[outV o, .bool is]) := hvp 7 (by omega)
              obtain rfl : z8 = (outV o) := hvp 8 (by omega)
              obtain rfl : z9 = (.bool is) := hvp 9 (by omega)
              have hxo : (⟨fun v w => ∃ gl, v = .pointer (some ⟨gl, 0, none⟩) ∧ w8.heap.size ≤ gl ∧ Row w gl 93 (outCs Out.zero), fun _ _ _ ⟨gl, h1, h2, h3⟩ k => ⟨gl, h1, h2, h3.keep k trivial⟩⟩ : SP).p z10 wR := hvp 10 (by omega)
              clear hvl hvp
              simp only [putAll, Act.put, List.setIfInBounds_toArray, List.set_cons_succ, List.set_cons_zero, List.take_succ_cons, List.take_zero, List.drop_succ_cons, List.drop_zero, List.eraseIdx_cons_succ, List.eraseIdx_cons_zero]
              obtain ⟨gl, rfl, hgl2, hrl⟩ := hxo
              have zl := hrl.lt
              have RL := Lib.hid hrl
              have l0 := hrl.cell 0
              have l1 := hrl.cell 1
              have l2 := hrl.cell 2
              have l3 := hrl.cell 3
              have l4 := hrl.cell 4
              have l5 := hrl.cell 5
              have l6 := hrl.cell 6
              simp only [outCs, Out.zero, List.getElem?_cons_zero, List.getElem?_cons_succ] at l0 l1 l2 l3 l4 l5 l6
              have h0 := hrl.frozen 0
              have h1 := hrl.frozen 1
              have h2 := hrl.frozen 2
              have h3 := hrl.frozen 3
              have h4 := hrl.frozen 4
              have h5 := hrl.frozen 5
              have h6 := hrl.frozen 6
              clear hrl
              go_wp2
              go_meet
              exact ⟨rfl, gl, rfl, RL.out.sets (outCs o) 0, Same.sets' (by omega) (outCs o) 0 hsR⟩
          · intro vs wR hvl hvp hsR
            rcases vs with _ | ⟨z0, _ | ⟨z1, _ | ⟨z2, _ | ⟨z3, _ | ⟨z4, _ | ⟨z5, _ | ⟨z6, _ | ⟨z7, _ | ⟨z8, _ | ⟨z10, _ | ⟨zz, zr⟩⟩⟩⟩⟩⟩⟩⟩⟩⟩⟩
            rotate_right 1
            · simp at hvl
            · simp at hvl
            · simp at hvl
            · simp at hvl
            · simp at hvl
            · simp at hvl
            · simp at hvl
            · simp at hvl
            · simp at hvl
            · simp at hvl
            · simp at hvl
            · obtain rfl : z0 = (.pointer (some ⟨g, 0, none⟩)) := hvp 0 (by omega)
              obtain rfl : z1 = (.pointer (some ⟨g, 0, none⟩)) := hvp 1 (by omega)
              obtain rfl : z2 = (.pointer (some ⟨g, 8, none⟩)) := hvp 2 (by omega)
              obtain rfl : z3 = (.slice Ad p.done.length cd) := hvp 3 (by omega)
              obtain rfl : z4 = (.pointer (some ⟨w.heap.size, 4, none⟩)) := hvp 4 (by omega)
              obtain rfl : z5 = (tryV c.by_) := hvp 5 (by omega)
              obtain rfl : z6 = (.tuple #[outV o, .bool is]) := hvp 6 (by omega)
              obtain rfl : z7 = (.tuple #[outV o, .bool is]) := hvp 7 (by omega)
              obtain rfl : z8 = (outV o) := hvp 8 (by omega)
              have hxo : (⟨fun v w => ∃ gl, v = .pointer (some ⟨gl, 0, none⟩) ∧ w8.heap.size ≤ gl ∧ Row w gl 93 (outCs Out.zero), fun _ _ _ ⟨gl, h1, h2, h3⟩ k => ⟨gl, h1, h2, h3.keep k trivial⟩⟩ : SP).p z10 wR := hvp 9 (by omega)
              clear hvl hvp
              simp only [putAll, Act.put, List.setIfInBounds_toArray, List.set_cons_succ, List.set_cons_zero, List.take_succ_cons, List.take_zero, List.drop_succ_cons, List.drop_zero, List.eraseIdx_cons_succ, List.eraseIdx_cons_zero]
              obtain ⟨gl, rfl, hgl2, hrl⟩ := hxo
              have zl := hrl.lt
              have RL := Lib.hid hrl
              have l0 := hrl.cell 0
              have l1 := hrl.cell 1
              have l2 := hrl.cell 2
              have l3 := hrl.cell 3
              have l4 := hrl.cell 4
              have l5 := hrl.cell 5
              have l6 := hrl.cell 6
              simp only [outCs, Out.zero, List.getElem?_cons_zero, List.getElem?_cons_succ] at l0 l1 l2 l3 l4 l5 l6
              have h0 := hrl.frozen 0
              have h1 := hrl.frozen 1
              have h2 := hrl.frozen 2
              have h3 := hrl.frozen 3
              have h4 := hrl.frozen 4
              have h5 := hrl.frozen 5
              have h6 := hrl.frozen 6
              clear hrl
              go_wp2
              go_meet
              exact ⟨rfl, gl, rfl, RL.out.sets (outCs o) 0, Same.sets' (by omega) (outCs o) 0 hsR⟩
        case rest =>
          obtain ⟨rfl, gl, rfl, hrl, hSc⟩ := hcut
          have HSd := Lib.hid (HSd.out.trans' hSc fun _ _ _ => trivial)
          have Ho1 := Lib.hid (Ho1.out.keepAll hSc)
          have R1 := Lib.hid (R1.out.keep hSc trivial)
          have HP := Lib.hid (HP.out.keep hSc trivial)
          have R0 := Lib.hid (R0.out.keep hSc trivial)
          clear p0 p1 p2 p3 p4 p5 p6 p7 p8 c0 c1 c2 c3 c4 c5 c6 c7 c8 c9 c10 c11 c12 c13 e0 f0 e1 f1 e2 f2 e3 f3 e4 f4 e5 f5 e6 f6 e7 f7 e8 f8 e9 f9 e10 f10 zp z1
          clear gf hSc hrl
          have hp := HP.out.keep (Same.refl (fun _ => True) wc) trivial
          unfold partCs at hp
          have r0 := R0.out.keep (Same.refl (fun _ => True) wc) trivial
          have r1 := R1.out.keep (Same.refl (fun _ => True) wc) trivial
          have p0 := hp.cell 0
          have p1 := hp.cell 1
          have p2 := hp.cell 2
          have p3 := hp.cell 3
          have p4 := hp.cell 4
          have p5 := hp.cell 5
          have p6 := hp.cell 6
          have p7 := hp.cell 7
          have p8 := hp.cell 8
          simp only [List.getElem?_cons_zero, List.getElem?_cons_succ] at p0 p1 p2 p3 p4 p5 p6 p7 p8
          have c0 := r0.cell 0
          have c1 := r0.cell 1
          have c2 := r0.cell 2
          have c3 := r0.cell 3
          have c4 := r0.cell 4
          have c5 := r0.cell 5
          have c6 := r0.cell 6
          have c7 := r0.cell 7
          have c8 := r0.cell 8
          have c9 := r0.cell 9
          have c10 := r0.cell 10
          have c11 := r0.cell 11
          have c12 := r0.cell 12
          have c13 := r0.cell 13
          simp only [List.getElem?_cons_zero, List.getElem?_cons_succ] at c0 c1 c2 c3 c4 c5 c6 c7 c8 c9 c10 c11 c12 c13
          have e0 := r1.cell 0
          have e1 := r1.cell 1
          have e2 := r1.cell 2
          have e3 := r1.cell 3
          have e4 := r1.cell 4
          have e5 := r1.cell 5
          have e6 := r1.cell 6
          have e7 := r1.cell 7
          have e8 := r1.cell 8
          have e9 := r1.cell 9
          have e10 := r1.cell 10
          simp only [List.getElem?_cons_zero, List.getElem?_cons_succ] at e0 e1 e2 e3 e4 e5 e6 e7 e8 e9 e10
          have f0 := r1.frozen 0
          have f1 := r1.frozen 1
          have f2 := r1.frozen 2
          have f3 := r1.frozen 3
          have f4 := r1.frozen 4
          have f5 := r1.frozen 5
          have f6 := r1.frozen 6
          have f7 := r1.frozen 7
          have f8 := r1.frozen 8
          have f9 := r1.frozen 9
          have f10 := r1.frozen 10
          have zp := hp.lt
          have z1 := r1.lt
          clear hp r0 r1
          cases is
          case true =>
            have HL := Lib.hid (show doesF p c = ({ p with cells := setlF p.cells c.by_ c.yes, done := p.done }, ReplyM.zero) by
              rw [HL0.out]
              unfold settleF
              rw [← Hfo.out]
              rfl)
            go_wp2
            have hS9 := Same.sets' (S := Sd g (.slice Ar p.recs.length cr) (.slice Ad p.done.length cd)) (w := w) (g := w.heap.size + 1) (by omega) (repCs nilV (ReplyM.zero)) 0 HSd.out
            have hq9 := Same.sets (S := fun q => q ≠ w.heap.size + 1) (g := w.heap.size + 1) (fun h => h rfl) (repCs nilV (ReplyM.zero)) 0 (Same.refl _ wc)
            rw [HL.out]
            exact bodyPost_ret (does_results (r := ReplyM.zero) (vp := nilV) (show Row _ _ _ (repCs nilV (ReplyM.zero)) from R1.out.sets (repCs nilV (ReplyM.zero)) 0) rfl) rfl ⟨_, _, _, _, rfl, HP.out.keep hq9 (by omega), Ho1.out.keepRep R1.out hq9, OwnR.nil _ _, hS9⟩
          have HL := Lib.hid (show doesF p c = ({ p with cells := setlF p.cells c.by_ c.yes, done := p.done ++ [newO c] }, ReplyM.zero) by
            rw [HL0.out]
            unfold settleF
            rw [← Hfo.out]
            rfl)
          go_wp2
          refine wp_region_tail_d (L := [.eq (.pointer (some ⟨g, 0, none⟩)), .eq (.pointer (some ⟨g, 0, none⟩)), .eq (.pointer (some ⟨g, 0, none⟩)), .eq (.pointer (some ⟨g, 8, none⟩)), .eq (.slice Ad p.done.length cd), .eq (.pointer (some ⟨w.heap.size, 4, none⟩)), .eq (tryV c.by_), .eq (.pointer (some ⟨w.heap.size, 8, none⟩)), .eq (stV c.at_), .eq (.pointer (some ⟨w.heap.size, 11, none⟩)), .eq (.bool c.yes), .eq (outV ⟨c.by_, c.at_, c.yes⟩), .of ⟨fun v w => ∃ gs, v = .slice (some ⟨gs, 0, none⟩) 1 1 ∧ OutR w (fun _ => True) (.slice (some ⟨gs, 0, none⟩) 1 1) [⟨c.by_, c.at_, c.yes⟩], fun _ _ _ ⟨gs, h1, h2⟩ k => ⟨gs, h1, RowR.keepAll h2 k⟩⟩]) 13 0 (by omega) (by kernel_rfl) (by kernel_rfl) rfl rfl rfl rfl rfl rfl ?_ ?_ ?_
          · refine ⟨?_, ?_, ?_, ?_, ?_, ?_, ?_, ?_, ?_, ?_, ?_, ?_, ?_, trivial⟩
            · intro ac wc hs hd hz hf hw K hK
              have e0 : ac.eval (.tmp 0) = (.pointer (some ⟨g, 0, none⟩)) := hf 0 rfl
              clear hd hz hf hw
              simp only [Region.wanted, if_true, Oper.wp, execOp, resolve, List.map_toArray, List.map_cons, List.map_nil, Option.map_some, Option.map_none, e0]
              go_simp
              exact hK _ _ rfl (Same.refl _ _)
            · intro ac wc hs hd hz hf hw K hK
              have e0 : ac.eval (.tmp 0) = (.pointer (some ⟨g, 0, none⟩)) := hf 0 rfl
              clear hd hz hf hw
              simp only [Region.wanted, if_true, Oper.wp, execOp, resolve, List.map_toArray, List.map_cons, List.map_nil, Option.map_some, Option.map_none, e0]
              go_simp
              exact hK _ _ rfl (Same.refl _ _)
            · intro ac wc hs hd hz hf hw K hK
              have e0 : ac.eval (.tmp 87) = (.pointer (some ⟨g, 0, none⟩)) := hw 1 rfl
              clear hd hz hf hw
              simp only [Region.wanted, if_true, Oper.wp, execOp, resolve, List.map_toArray, List.map_cons, List.map_nil, Option.map_some, Option.map_none, e0]
              go_simp
              exact hK _ _ rfl (Same.refl _ _)
            · intro ac wc hs hd hz hf hw K hK
              have e0 : ac.eval (.tmp 88) = (.pointer (some ⟨g, 0, none⟩)) := hw 2 rfl
              clear hd hz hf hw
              simp only [Region.wanted, if_true, Oper.wp, execOp, resolve, List.map_toArray, List.map_cons, List.map_nil, Option.map_some, Option.map_none, e0]
              go_simp
              exact hK _ _ rfl (Same.refl _ _)
            · intro ac wc hs hd hz hf hw K hK
              have e0 : ac.eval (.tmp 89) = (.pointer (some ⟨g, 8, none⟩)) := hw 3 rfl
              have m0 : wc.cell? ⟨g, 8, none⟩ = some (.slice Ad p.done.length cd) := hs.cell (p := ⟨g, 8, none⟩) trivial p8
              clear hd hz hf hw
              simp only [Region.wanted, if_true, Oper.wp, execOp, resolve, List.map_toArray, List.map_cons, List.map_nil, Option.map_some, Option.map_none, e0]
              go_simp
              exact hK _ _ rfl (Same.refl _ _)
            · intro ac wc hs hd hz hf hw K hK
              have e0 : ac.eval (.tmp 3) = (.pointer (some ⟨w.heap.size, 0, none⟩)) := hf 3 rfl
              clear hd hz hf hw
              simp only [Region.wanted, if_true, Oper.wp, execOp, resolve, List.map_toArray, List.map_cons, List.map_nil, Option.map_some, Option.map_none, e0]
              go_simp
              exact hK _ _ rfl (Same.refl _ _)
            · intro ac wc hs hd hz hf hw K hK
              have e0 : ac.eval (.tmp 91) = (.pointer (some ⟨w.heap.size, 4, none⟩)) := hw 5 rfl
              have m0 : wc.cell? ⟨w.heap.size, 4, none⟩ = some (.int .i64 c.by_.node) := hs.cell (p := ⟨w.heap.size, 4, none⟩) trivial c4
              have m1 : wc.cell? ⟨w.heap.size, 5, none⟩ = some (.int .i64 c.by_.life) := hs.cell (p := ⟨w.heap.size, 5, none⟩) trivial c5
              have m2 : wc.cell? ⟨w.heap.size, 6, none⟩ = some (.int .i64 c.by_.seq) := hs.cell (p := ⟨w.heap.size, 6, none⟩) trivial c6
              have m3 : wc.cell? ⟨w.heap.size, 7, none⟩ = some (.int .i64 c.by_.attempt) := hs.cell (p := ⟨w.heap.size, 7, none⟩) trivial c7
              clear hd hz hf hw
              simp only [Region.wanted, if_true, Oper.wp, execOp, resolve, List.map_toArray, List.map_cons, List.map_nil, Option.map_some, Option.map_none, e0]
              go_simp
              exact hK _ _ rfl (Same.refl _ _)
            · intro ac wc hs hd hz hf hw K hK
              have e0 : ac.eval (.tmp 3) = (.pointer (some ⟨w.heap.size, 0, none⟩)) := hf 3 rfl
              clear hd hz hf hw
              simp only [Region.wanted, if_true, Oper.wp, execOp, resolve, List.map_toArray, List.map_cons, List.map_nil, Option.map_some, Option.map_none, e0]
              go_simp
              exact hK _ _ rfl (Same.refl _ _)
            · intro ac wc hs hd hz hf hw K hK
              have e0 : ac.eval (.tmp 93) = (.pointer (some ⟨w.heap.size, 8, none⟩)) := hw 7 rfl
              have m0 : wc.cell? ⟨w.heap.size, 8, none⟩ = some (.int .i64 c.at_.wall) := hs.cell (p := ⟨w.heap.size, 8, none⟩) trivial c8
              have m1 : wc.cell? ⟨w.heap.size, 9, none⟩ = some (.int .i64 c.at_.tie) := hs.cell (p := ⟨w.heap.size, 9, none⟩) trivial c9
              clear hd hz hf hw
              simp only [Region.wanted, if_true, Oper.wp, execOp, resolve, List.map_toArray, List.map_cons, List.map_nil, Option.map_some, Option.map_none, e0]
              go_simp
              exact hK _ _ rfl (Same.refl _ _)
            · intro ac wc hs hd hz hf hw K hK
              have e0 : ac.eval (.tmp 3) = (.pointer (some ⟨w.heap.size, 0, none⟩)) := hf 3 rfl
              clear hd hz hf hw
              simp only [Region.wanted, if_true, Oper.wp, execOp, resolve, List.map_toArray, List.map_cons, List.map_nil, Option.map_some, Option.map_none, e0]
              go_simp
              exact hK _ _ rfl (Same.refl _ _)
            · intro ac wc hs hd hz hf hw K hK
              have e0 : ac.eval (.tmp 95) = (.pointer (some ⟨w.heap.size, 11, none⟩)) := hw 9 rfl
              have m0 : wc.cell? ⟨w.heap.size, 11, none⟩ = some (.bool c.yes) := hs.cell (p := ⟨w.heap.size, 11, none⟩) trivial c11
              clear hd hz hf hw
              simp only [Region.wanted, if_true, Oper.wp, execOp, resolve, List.map_toArray, List.map_cons, List.map_nil, Option.map_some, Option.map_none, e0]
              go_simp
              exact hK _ _ rfl (Same.refl _ _)
            · intro ac wc hs hd hz hf hw K hK
              have e0 : ac.eval (.tmp 92) = (tryV c.by_) := hw 6 rfl
              have e1 : ac.eval (.tmp 94) = (stV c.at_) := hw 8 rfl
              have e2 : ac.eval (.tmp 96) = (.bool c.yes) := hw 10 rfl
              clear hd hz hf hw
              simp only [Region.wanted, if_true, Oper.wp, execOp, resolve, List.map_toArray, List.map_cons, List.map_nil, Option.map_some, Option.map_none, e0, e1, e2]
              go_simp
              exact hK _ _ rfl (Same.refl _ _)
            · intro ac wc hs hd hz hf hw K hK
              have e0 : ac.eval (.tmp 97) = (outV ⟨c.by_, c.at_, c.yes⟩) := hw 11 rfl
              clear hd hz hf hw
              simp only [Region.wanted, if_true, Oper.wp, execOp, resolve, List.map_toArray, List.map_cons, List.map_nil, Option.map_some, Option.map_none, e0]
              go_simp
              exact hK _ _ ⟨_, rfl, outr_one (Row.new _ _ (outCs ⟨c.by_, c.at_, c.yes⟩))⟩ ((Same.refl _ _).alloc _)
          · intro vs wR hvl hvp hsR
            rcases vs with _ | ⟨z0, _ | ⟨z1, _ | ⟨z2, _ | ⟨z3, _ | ⟨z4, _ | ⟨z5, _ | ⟨z6, _ | ⟨z7, _ | ⟨z8, _ | ⟨z9, _ | ⟨z10, _ | ⟨z11, _ | ⟨z12, _ | ⟨zz, zr⟩⟩⟩⟩⟩⟩⟩⟩⟩⟩⟩⟩⟩⟩
            rotate_right 1
            · simp at hvl
            · simp at hvl
            · simp at hvl
            · simp at hvl
            · simp at hvl
            · simp at hvl
            · simp at hvl
            · simp at hvl
            · simp at hvl
            · simp at hvl
            · simp at hvl
            · simp at hvl
            · simp at hvl
            · simp at hvl
            · obtain rfl : z0 = (.pointer (some ⟨g, 0, none⟩)) := hvp 0 (by omega)
              obtain rfl : z1 = (.pointer (some ⟨g, 0, none⟩)) := hvp 1 (by omega)
              obtain rfl : z2 = (.pointer (some ⟨g, 0, none⟩)) := hvp 2 (by omega)
              obtain rfl : z3 = (.pointer (some ⟨g, 8, none⟩)) := hvp 3 (by omega)
              obtain rfl : z4 = (.slice Ad p.done.length cd) := hvp 4 (by omega)
              obtain rfl : z5 = (.pointer (some ⟨w.heap.size, 4, none⟩)) := hvp 5 (by omega)
              obtain rfl : z6 = (tryV c.by_) := hvp 6 (by omega)
              obtain rfl : z7 = (.pointer (some ⟨w.heap.size, 8, none⟩)) := hvp 7 (by omega)
              obtain rfl : z8 = (stV c.at_) := hvp 8 (by omega)
              obtain rfl : z9 = (.pointer (some ⟨w.heap.size, 11, none⟩)) := hvp 9 (by omega)
              obtain rfl : z10 = (.bool c.yes) := hvp 10 (by omega)
              obtain rfl : z11 = (outV ⟨c.by_, c.at_, c.yes⟩) := hvp 11 (by omega)
              have hx1 : (⟨fun v w => ∃ gs, v = .slice (some ⟨gs, 0, none⟩) 1 1 ∧ OutR w (fun _ => True) (.slice (some ⟨gs, 0, none⟩) 1 1) [⟨c.by_, c.at_, c.yes⟩], fun _ _ _ ⟨gs, h1, h2⟩ k => ⟨gs, h1, RowR.keepAll h2 k⟩⟩ : SP).p z12 wR := hvp 12 (by omega)
              clear hvl hvp
              simp only [putAll, Act.put, List.setIfInBounds_toArray, List.set_cons_succ, List.set_cons_zero, List.take_succ_cons, List.take_zero, List.drop_succ_cons, List.drop_zero, List.eraseIdx_cons_succ, List.eraseIdx_cons_zero]
              obtain ⟨gs, rfl, hone⟩ := hx1
              have HSd := Lib.hid (HSd.out.trans' hsR fun _ _ _ => trivial)
              have Ho1 := Lib.hid (Ho1.out.keepAll hsR)
              have R1 := Lib.hid (R1.out.keep hsR trivial)
              have HP := Lib.hid (HP.out.keep hsR trivial)
              have R0 := Lib.hid (R0.out.keep hsR trivial)
              have Hone := Lib.hid hone
              have hBR : B ≤ wR.heap.size := by have := HSd.out.size; omega
              clear p0 p1 p2 p3 p4 p5 p6 p7 p8 c0 c1 c2 c3 c4 c5 c6 c7 c8 c9 c10 c11 c12 c13 e0 f0 e1 f1 e2 f2 e3 f3 e4 f4 e5 f5 e6 f6 e7 f7 e8 f8 e9 f9 e10 f10 zp z1
              clear hsR hone
              go_wp2_with (at_builtin; refine stopAt ?_)
              unfold Hid
              refine wpList_appR2 TOut outCs_len outCs_one rfl (.tmp 90) (.tmp 98) rfl rfl rfl Hone.out Ho1.out.done (by omega) (by simp only [maxLen, List.length_singleton]; omega) (by simp only [List.length_singleton]; omega) ?_
              intro v7 w7 hown7 hS7 hbl7
              obtain ⟨A7, c7, rfl, -, -⟩ := OwnR.form hown7
              rw [List.length_append, List.length_singleton] at hown7 hbl7 ⊢
              have Hown7 := Lib.hid hown7
              obtain ⟨hg1, hg2⟩ := Ho1.out.growD hS7
              have Hg1 := Lib.hid hg1
              have Hg2 := Lib.hid hg2
              have HP7 := Lib.hid (HP.out.keep hS7 (OwnR.neRow Ho1.out.done HP.out (by decide)))
              have R1 := Lib.hid (R1.out.keep hS7 (OwnR.neRow Ho1.out.done R1.out (by decide)))
              have R0 := Lib.hid (R0.out.keep hS7 (OwnR.neRow Ho1.out.done R0.out (by decide)))
              have hap : ∀ k, Value.ownBlock (.slice A7 (p.done.length + 1) c7) = some k → Value.ownBlock (.slice Ar p.recs.length cr) ≠ some k := fun k h1 h2 => by
                rcases hbl7 with h | h
                · exact Ho1.out.apart k (h.symm.trans h1) h2
                · have := (Ho1.out.recs.lt k h2).2
                  have e := h.symm.trans h1
                  injection e with e
                  omega
              have Hap := Lib.hid hap
              have HSd := Lib.hid (HSd.out.trans' hS7 fun q _ hq => hq.2.2)
              have hzw := hS7.size
              clear hown7 hS7 hbl7 hg1 hg2 hap
              have hp := HP7.out
              unfold partCs at hp
              have pv := hp.cell 8
              simp only [List.getElem?_cons_zero, List.getElem?_cons_succ] at pv
              have fv := hp.frozen 8
              have zp := hp.lt
              clear hp
              have r1 := R1.out
              have e0 := r1.cell 0
              have e1 := r1.cell 1
              have e2 := r1.cell 2
              have e3 := r1.cell 3
              have e4 := r1.cell 4
              have e5 := r1.cell 5
              have e6 := r1.cell 6
              have e7 := r1.cell 7
              have e8 := r1.cell 8
              have e9 := r1.cell 9
              have e10 := r1.cell 10
              simp only [List.getElem?_cons_zero, List.getElem?_cons_succ] at e0 e1 e2 e3 e4 e5 e6 e7 e8 e9 e10
              have f0 := r1.frozen 0
              have f1 := r1.frozen 1
              have f2 := r1.frozen 2
              have f3 := r1.frozen 3
              have f4 := r1.frozen 4
              have f5 := r1.frozen 5
              have f6 := r1.frozen 6
              have f7 := r1.frozen 7
              have f8 := r1.frozen 8
              have f9 := r1.frozen 9
              have f10 := r1.frozen 10
              have z1 := r1.lt
              clear r1
              go_wp2
              have hp5 := HP7.out.set_ 8 (.slice A7 (p.done.length + 1) c7)
              have hS5 : Same (fun q => q ≠ g) w7 (w7.setCell ⟨g, 8, none⟩ (.slice A7 (p.done.length + 1) c7)) := (Same.refl _ _).setCell (fun _ h => h rfl) _
              clear pv fv zp
              obtain ⟨w9, hw9⟩ : ∃ w9, w9 = w7.setCell ⟨g, 8, none⟩ (.slice A7 (p.done.length + 1) c7) := ⟨_, rfl⟩
              rw [← hw9] at hp5 hS5 ⊢
              have HP := Lib.hid (show Row w9 g 77 (partCs (.slice Ay ny cy) (.slice Ar p.recs.length cr) (.slice A7 (p.done.length + 1) c7) { ({ p with cells := setlF p.cells c.by_ c.yes } : PartM) with done := p.done ++ [newO c] }) from hp5)
              have R1 := Lib.hid (R1.out.keep hS5 (by omega))
              have R0 := Lib.hid (R0.out.keep hS5 (by omega))
              have Ho1 := Lib.hid (show OwnPart w9 B (.slice Ay ny cy) (.slice Ar p.recs.length cr) (.slice A7 (p.done.length + 1) c7) { ({ p with cells := setlF p.cells c.by_ c.yes } : PartM) with done := p.done ++ [newO c] } from ⟨Hg1.out.keepG HP7.out (by decide) (by decide) hS5, Hg2.out.keepG HP7.out (by decide) hS5, Hown7.out.keepG HP7.out (by decide) hS5, Hap.out⟩)
              have HSd := Lib.hid (HSd.out.trans' hS5 fun q _ hq => hq.1)
              clear hp5 hS5
              have hS9 := Same.sets' (S := Sd g (.slice Ar p.recs.length cr) (.slice Ad p.done.length cd)) (w := w) (g := w.heap.size + 1) (by omega) (repCs nilV (ReplyM.zero)) 0 HSd.out
              have hq9 := Same.sets (S := fun q => q ≠ w.heap.size + 1) (g := w.heap.size + 1) (fun h => h rfl) (repCs nilV (ReplyM.zero)) 0 (Same.refl _ w9)
              rw [HL.out]
              exact bodyPost_ret (does_results (r := ReplyM.zero) (vp := nilV) (show Row _ _ _ (repCs nilV (ReplyM.zero)) from R1.out.sets (repCs nilV (ReplyM.zero)) 0) rfl) rfl ⟨_, _, _, _, rfl, HP.out.keep hq9 (by omega), Ho1.out.keepRep R1.out hq9, OwnR.nil _ _, hS9⟩
          · intro vs wR hvl hvp hsR
            rcases vs with _ | ⟨z1, _ | ⟨z2, _ | ⟨z3, _ | ⟨z4, _ | ⟨z5, _ | ⟨z6, _ | ⟨z7, _ | ⟨z8, _ | ⟨z9, _ | ⟨z10, _ | ⟨z11, _ | ⟨z12, _ | ⟨zz, zr⟩⟩⟩⟩⟩⟩⟩⟩⟩⟩⟩⟩⟩
            rotate_right 1
            · simp at hvl
            · simp at hvl
            · simp at hvl
            · simp at hvl
            · simp at hvl
            · simp at hvl
            · simp at hvl
            · simp at hvl
            · simp at hvl
            · simp at hvl
            · simp at hvl
            · simp at hvl
            · simp at hvl
            · obtain rfl : z1 = (.pointer (some ⟨g, 0, none⟩)) := hvp 0 (by omega)
              obtain rfl : z2 = (.pointer (some ⟨g, 0, none⟩)) := hvp 1 (by omega)
              obtain rfl : z3 = (.pointer (some ⟨g, 8, none⟩)) := hvp 2 (by omega)
              obtain rfl : z4 = (.slice Ad p.done.length cd) := hvp 3 (by omega)
              obtain rfl : z5 = (.pointer (some ⟨w.heap.size, 4, none⟩)) := hvp 4 (by omega)
              obtain rfl : z6 = (tryV c.by_) := hvp 5 (by omega)
              obtain rfl : z7 = (.pointer (some ⟨w.heap.size, 8, none⟩)) := hvp 6 (by omega)
              obtain rfl : z8 = (stV c.at_) := hvp 7 (by omega)
              obtain rfl : z9 = (.pointer (some ⟨w.heap.size, 11, none⟩)) := hvp 8 (by omega)
              obtain rfl : z10 = (.bool c.yes) := hvp 9 (by omega)
              obtain rfl : z11 = (outV ⟨c.by_, c.at_, c.yes⟩) := hvp 10 (by omega)
              have hx1 : (⟨fun v w => ∃ gs, v = .slice (some ⟨gs, 0, none⟩) 1 1 ∧ OutR w (fun _ => True) (.slice (some ⟨gs, 0, none⟩) 1 1) [⟨c.by_, c.at_, c.yes⟩], fun _ _ _ ⟨gs, h1, h2⟩ k => ⟨gs, h1, RowR.keepAll h2 k⟩⟩ : SP).p z12 wR := hvp 11 (by omega)
              clear hvl hvp
              simp only [putAll, Act.put, List.setIfInBounds_toArray, List.set_cons_succ, List.set_cons_zero, List.take_succ_cons, List.take_zero, List.drop_succ_cons, List.drop_zero, List.eraseIdx_cons_succ, List.eraseIdx_cons_zero]
              obtain ⟨gs, rfl, hone⟩ := hx1
              have HSd := Lib.hid (HSd.out.trans' hsR fun _ _ _ => trivial)
              have Ho1 := Lib.hid (Ho1.out.keepAll hsR)
              have R1 := Lib.hid (R1.out.keep hsR trivial)
              have HP := Lib.hid (HP.out.keep hsR trivial)
              have R0 := Lib.hid (R0.out.keep hsR trivial)
              have Hone := Lib.hid hone
              have hBR : B ≤ wR.heap.size := by have := HSd.out.size; omega
              clear p0 p1 p2 p3 p4 p5 p6 p7 p8 c0 c1 c2 c3 c4 c5 c6 c7 c8 c9 c10 c11 c12 c13 e0 f0 e1 f1 e2 f2 e3 f3 e4 f4 e5 f5 e6 f6 e7 f7 e8 f8 e9 f9 e10 f10 zp z1
              clear hsR hone
              go_wp2_with (at_builtin; refine stopAt ?_)
              unfold Hid
              refine wpList_appR2 TOut outCs_len outCs_one rfl (.tmp 90) (.tmp 98) rfl rfl rfl Hone.out Ho1.out.done (by omega) (by simp only [maxLen, List.length_singleton]; omega) (by simp only [List.length_singleton]; omega) ?_
              intro v7 w7 hown7 hS7 hbl7
              obtain ⟨A7, c7, rfl, -, -⟩ := OwnR.form hown7
              rw [List.length_append, List.length_singleton] at hown7 hbl7 ⊢
              have Hown7 := Lib.hid hown7
              obtain ⟨hg1, hg2⟩ := Ho1.out.growD hS7
              have Hg1 := Lib.hid hg1
              have Hg2 := Lib.hid hg2
              have HP7 := Lib.hid (HP.out.keep hS7 (OwnR.neRow Ho1.out.done HP.out (by decide)))
              have R1 := Lib.hid (R1.out.keep hS7 (OwnR.neRow Ho1.out.done R1.out (by decide)))
              have R0 := Lib.hid (R0.out.keep hS7 (OwnR.neRow Ho1.out.done R0.out (by decide)))
              have hap : ∀ k, Value.ownBlock (.slice A7 (p.done.length + 1) c7) = some k → Value.ownBlock (.slice Ar p.recs.length cr) ≠ some k := fun k h1 h2 => by
                rcases hbl7 with h | h
                · exact Ho1.out.apart k (h.symm.trans h1) h2
                · have := (Ho1.out.recs.lt k h2).2
                  have e := h.symm.trans h1
                  injection e with e
                  omega
              have Hap := Lib.hid hap
              have HSd := Lib.hid (HSd.out.trans' hS7 fun q _ hq => hq.2.2)
              have hzw := hS7.size
              clear hown7 hS7 hbl7 hg1 hg2 hap
              have hp := HP7.out
              unfold partCs at hp
              have pv := hp.cell 8
              simp only [List.getElem?_cons_zero, List.getElem?_cons_succ] at pv
              have fv := hp.frozen 8
              have zp := hp.lt
              clear hp
              have r1 := R1.out
              have e0 := r1.cell 0
              have e1 := r1.cell 1
              have e2 := r1.cell 2
              have e3 := r1.cell 3
              have e4 := r1.cell 4
              have e5 := r1.cell 5
              have e6 := r1.cell 6
              have e7 := r1.cell 7
              have e8 := r1.cell 8
              have e9 := r1.cell 9
              have e10 := r1.cell 10
              simp only [List.getElem?_cons_zero, List.getElem?_cons_succ] at e0 e1 e2 e3 e4 e5 e6 e7 e8 e9 e10
              have f0 := r1.frozen 0
              have f1 := r1.frozen 1
              have f2 := r1.frozen 2
              have f3 := r1.frozen 3
              have f4 := r1.frozen 4
              have f5 := r1.frozen 5
              have f6 := r1.frozen 6
              have f7 := r1.frozen 7
              have f8 := r1.frozen 8
              have f9 := r1.frozen 9
              have f10 := r1.frozen 10
              have z1 := r1.lt
              clear r1
              go_wp2
              have hp5 := HP7.out.set_ 8 (.slice A7 (p.done.length + 1) c7)
              have hS5 : Same (fun q => q ≠ g) w7 (w7.setCell ⟨g, 8, none⟩ (.slice A7 (p.done.length + 1) c7)) := (Same.refl _ _).setCell (fun _ h => h rfl) _
              clear pv fv zp
              obtain ⟨w9, hw9⟩ : ∃ w9, w9 = w7.setCell ⟨g, 8, none⟩ (.slice A7 (p.done.length + 1) c7) := ⟨_, rfl⟩
              rw [← hw9] at hp5 hS5 ⊢
              have HP := Lib.hid (show Row w9 g 77 (partCs (.slice Ay ny cy) (.slice Ar p.recs.length cr) (.slice A7 (p.done.length + 1) c7) { ({ p with cells := setlF p.cells c.by_ c.yes } : PartM) with done := p.done ++ [newO c] }) from hp5)
              have R1 := Lib.hid (R1.out.keep hS5 (by omega))
              have R0 := Lib.hid (R0.out.keep hS5 (by omega))
              have Ho1 := Lib.hid (show OwnPart w9 B (.slice Ay ny cy) (.slice Ar p.recs.length cr) (.slice A7 (p.done.length + 1) c7) { ({ p with cells := setlF p.cells c.by_ c.yes } : PartM) with done := p.done ++ [newO c] } from ⟨Hg1.out.keepG HP7.out (by decide) (by decide) hS5, Hg2.out.keepG HP7.out (by decide) hS5, Hown7.out.keepG HP7.out (by decide) hS5, Hap.out⟩)
              have HSd := Lib.hid (HSd.out.trans' hS5 fun q _ hq => hq.1)
              clear hp5 hS5
              have hS9 := Same.sets' (S := Sd g (.slice Ar p.recs.length cr) (.slice Ad p.done.length cd)) (w := w) (g := w.heap.size + 1) (by omega) (repCs nilV (ReplyM.zero)) 0 HSd.out
              have hq9 := Same.sets (S := fun q => q ≠ w.heap.size + 1) (g := w.heap.size + 1) (fun h => h rfl) (repCs nilV (ReplyM.zero)) 0 (Same.refl _ w9)
              rw [HL.out]
              exact bodyPost_ret (does_results (r := ReplyM.zero) (vp := nilV) (show Row _ _ _ (repCs nilV (ReplyM.zero)) from R1.out.sets (repCs nilV (ReplyM.zero)) 0) rfl) rfl ⟨_, _, _, _, rfl, HP.out.keep hq9 (by omega), Ho1.out.keepRep R1.out hq9, OwnR.nil _ _, hS9⟩
  · have hk2 : ¬ c.kind = 2 := by simpa using (‹(c.kind == 2) = false›)
    have hk3 : ¬ c.kind = 3 := by simpa using (‹(c.kind == 3) = false›)
    have hk4 : ¬ c.kind = 4 := by simpa using (‹(c.kind == 4) = false›)
    have hk5 : ¬ c.kind = 5 := by simpa using (‹(c.kind == 5) = false›)
    have hk6 : c.kind = 6 := by simpa using (‹(c.kind == 6) = true›)
    have HL := Lib.hid (show doesF p c = closeF p c by unfold doesF; rw [if_neg hk2, if_neg hk3, if_neg hk4, if_neg hk5, if_pos hk6])
    clear hk2 hk3 hk4 hk5 hk6
    have HSd := Lib.hid (HSw.out.mono (S' := Sd g (.slice Ar p.recs.length cr) (.slice Ad p.done.length cd)) fun _ _ _ => trivial)
    refine wp_region_tail_lit (L := [.eq (.pointer (some ⟨g, 0, none⟩)), .eq (.pointer (some ⟨g, 0, none⟩)), .eq (.pointer (some ⟨g, 0, none⟩)), .eq (.pointer (some ⟨g, 4, none⟩)), .eq (.int .i64 p.closed), .eq (.pointer (some ⟨w.heap.size, 10, none⟩)), .eq (.int .i64 c.wall), .eq (.int .i64 (min c.wall 4611686018427387904)), .eq (.int .i64 (max p.closed (min c.wall 4611686018427387904)))]) 9 (by kernel_rfl) (by kernel_rfl) rfl rfl rfl ?_ ?_
    · refine ⟨?_, ?_, ?_, ?_, ?_, ?_, ?_, ?_, ?_, trivial⟩
      · intro ac wc hs hd hz hf hw K hK
        have e0 : ac.eval (.tmp 0) = (.pointer (some ⟨g, 0, none⟩)) := hf 0 rfl
        clear hd hz hf hw
        simp only [Region.wanted, if_true, Oper.wp, execOp, resolve, List.map_toArray, List.map_cons, List.map_nil, Option.map_some, Option.map_none, e0]
        go_simp
        exact hK _ _ rfl (Same.refl _ _)
      · intro ac wc hs hd hz hf hw K hK
        have e0 : ac.eval (.tmp 0) = (.pointer (some ⟨g, 0, none⟩)) := hf 0 rfl
        clear hd hz hf hw
        simp only [Region.wanted, if_true, Oper.wp, execOp, resolve, List.map_toArray, List.map_cons, List.map_nil, Option.map_some, Option.map_none, e0]
        go_simp
        exact hK _ _ rfl (Same.refl _ _)
      · intro ac wc hs hd hz hf hw K hK
        have e0 : ac.eval (.tmp 106) = (.pointer (some ⟨g, 0, none⟩)) := hw 1 rfl
        clear hd hz hf hw
        simp only [Region.wanted, if_true, Oper.wp, execOp, resolve, List.map_toArray, List.map_cons, List.map_nil, Option.map_some, Option.map_none, e0]
        go_simp
        exact hK _ _ rfl (Same.refl _ _)
      · intro ac wc hs hd hz hf hw K hK
        have e0 : ac.eval (.tmp 107) = (.pointer (some ⟨g, 0, none⟩)) := hw 2 rfl
        clear hd hz hf hw
        simp only [Region.wanted, if_true, Oper.wp, execOp, resolve, List.map_toArray, List.map_cons, List.map_nil, Option.map_some, Option.map_none, e0]
        go_simp
        exact hK _ _ rfl (Same.refl _ _)
      · intro ac wc hs hd hz hf hw K hK
        have e0 : ac.eval (.tmp 108) = (.pointer (some ⟨g, 4, none⟩)) := hw 3 rfl
        have m0 : wc.cell? ⟨g, 4, none⟩ = some (.int .i64 p.closed) := hs.cell (p := ⟨g, 4, none⟩) trivial p4
        clear hd hz hf hw
        simp only [Region.wanted, if_true, Oper.wp, execOp, resolve, List.map_toArray, List.map_cons, List.map_nil, Option.map_some, Option.map_none, e0]
        go_simp
        exact hK _ _ rfl (Same.refl _ _)
      · intro ac wc hs hd hz hf hw K hK
        have e0 : ac.eval (.tmp 3) = (.pointer (some ⟨w.heap.size, 0, none⟩)) := hf 3 rfl
        clear hd hz hf hw
        simp only [Region.wanted, if_true, Oper.wp, execOp, resolve, List.map_toArray, List.map_cons, List.map_nil, Option.map_some, Option.map_none, e0]
        go_simp
        exact hK _ _ rfl (Same.refl _ _)
      · intro ac wc hs hd hz hf hw K hK
        have e0 : ac.eval (.tmp 110) = (.pointer (some ⟨w.heap.size, 10, none⟩)) := hw 5 rfl
        have m0 : wc.cell? ⟨w.heap.size, 10, none⟩ = some (.int .i64 c.wall) := hs.cell (p := ⟨w.heap.size, 10, none⟩) trivial c10
        clear hd hz hf hw
        simp only [Region.wanted, if_true, Oper.wp, execOp, resolve, List.map_toArray, List.map_cons, List.map_nil, Option.map_some, Option.map_none, e0]
        go_simp
        exact hK _ _ rfl (Same.refl _ _)
      · intro ac wc hs hd hz hf hw K hK
        have e0 : ac.eval (.tmp 111) = (.int .i64 c.wall) := hw 6 rfl
        clear hd hz hf hw
        simp only [Region.wanted, if_true, Oper.wp, execOp, resolve, List.map_toArray, List.map_cons, List.map_nil, Option.map_some, Option.map_none, e0]
        go_simp
        exact hK _ _ rfl (Same.refl _ _)
      · intro ac wc hs hd hz hf hw K hK
        have e0 : ac.eval (.tmp 109) = (.int .i64 p.closed) := hw 4 rfl
        have e1 : ac.eval (.tmp 112) = (.int .i64 (min c.wall 4611686018427387904)) := hw 7 rfl
        clear hd hz hf hw
        simp only [Region.wanted, if_true, Oper.wp, execOp, resolve, List.map_toArray, List.map_cons, List.map_nil, Option.map_some, Option.map_none, e0, e1]
        go_simp
        exact hK _ _ rfl (Same.refl _ _)
    · intro vs wR hvl hvp hsR
      rcases vs with _ | ⟨z0, _ | ⟨z1, _ | ⟨z2, _ | ⟨z3, _ | ⟨z4, _ | ⟨z5, _ | ⟨z6, _ | ⟨z7, _ | ⟨z8, _ | ⟨zz, zr⟩⟩⟩⟩⟩⟩⟩⟩⟩⟩
      rotate_right 1
      · simp at hvl
      · simp at hvl
      · simp at hvl
      · simp at hvl
      · simp at hvl
      · simp at hvl
      · simp at hvl
      · simp at hvl
      · simp at hvl
      · simp at hvl
      · obtain rfl : z0 = (.pointer (some ⟨g, 0, none⟩)) := hvp 0 (by omega)
        obtain rfl : z1 = (.pointer (some ⟨g, 0, none⟩)) := hvp 1 (by omega)
        obtain rfl : z2 = (.pointer (some ⟨g, 0, none⟩)) := hvp 2 (by omega)
        obtain rfl : z3 = (.pointer (some ⟨g, 4, none⟩)) := hvp 3 (by omega)
        obtain rfl : z4 = (.int .i64 p.closed) := hvp 4 (by omega)
        obtain rfl : z5 = (.pointer (some ⟨w.heap.size, 10, none⟩)) := hvp 5 (by omega)
        obtain rfl : z6 = (.int .i64 c.wall) := hvp 6 (by omega)
        obtain rfl : z7 = (.int .i64 (min c.wall 4611686018427387904)) := hvp 7 (by omega)
        obtain rfl : z8 = (.int .i64 (max p.closed (min c.wall 4611686018427387904))) := hvp 8 (by omega)
        clear hvl hvp
        simp only [putAll, Act.put, List.setIfInBounds_toArray, List.set_cons_succ, List.set_cons_zero, List.take_succ_cons, List.take_zero, List.drop_succ_cons, List.drop_zero, List.eraseIdx_cons_succ, List.eraseIdx_cons_zero]
        have HSd := Lib.hid (HSd.out.trans' hsR fun _ _ _ => trivial)
        have Ho1 := Lib.hid (Ho1.out.keepAll hsR)
        have R1 := Lib.hid (R1.out.keep hsR trivial)
        have HP := Lib.hid (HP.out.keep hsR trivial)
        have R0 := Lib.hid (R0.out.keep hsR trivial)
        clear p0 p1 p2 p3 p4 p5 p6 p7 p8 c0 c1 c2 c3 c4 c5 c6 c7 c8 c9 c10 c11 c12 c13 e0 f0 e1 f1 e2 f2 e3 f3 e4 f4 e5 f5 e6 f6 e7 f7 e8 f8 e9 f9 e10 f10 zp z1
        clear hsR
        have hp := HP.out
        unfold partCs at hp
        have pv := hp.cell 4
        simp only [List.getElem?_cons_zero, List.getElem?_cons_succ] at pv
        have fv := hp.frozen 4
        have zp := hp.lt
        clear hp
        go_wp2_with (with_reducible refine stopDst 119 rfl ?_)
        unfold Hid
        have hp5 := HP.out.set_ 4 (.int .i64 (max p.closed (min c.wall 4611686018427387904)))
        have hS5 : Same (fun q => q ≠ g) wR (wR.setCell ⟨g, 4, none⟩ (.int .i64 (max p.closed (min c.wall 4611686018427387904)))) := (Same.refl _ _).setCell (fun _ h => h rfl) _
        clear pv fv zp
        revert hp5 hS5
        generalize wR.setCell _ _ = w9
        intro hp5 hS5
        have hPR := HP.out
        have HP := Lib.hid (show Row w9 g 77 (partCs (.slice Ac p.cells.length cc) (.slice Ar p.recs.length cr) (.slice Ad p.done.length cd) { p with closed := max p.closed (min c.wall 4611686018427387904) }) from hp5)
        have R1 := Lib.hid (R1.out.keep hS5 (by omega))
        have R0 := Lib.hid (R0.out.keep hS5 (by omega))
        have Ho1 := Lib.hid (show OwnPart w9 B (.slice Ac p.cells.length cc) (.slice Ar p.recs.length cr) (.slice Ad p.done.length cd) { p with closed := max p.closed (min c.wall 4611686018427387904) } from (Ho1.out.keepG hPR hS5).upd)
        have HSd := Lib.hid (HSd.out.trans' hS5 fun q _ hq => hq.1)
        have hz5 := hS5.size
        clear hp5 hS5 hPR
        have hp := HP.out.keep (Same.refl (fun _ => True) w9) trivial
        unfold partCs at hp
        have r0 := R0.out.keep (Same.refl (fun _ => True) w9) trivial
        have r1 := R1.out.keep (Same.refl (fun _ => True) w9) trivial
        have p0 := hp.cell 0
        have p1 := hp.cell 1
        have p2 := hp.cell 2
        have p3 := hp.cell 3
        have p4 := hp.cell 4
        have p5 := hp.cell 5
        have p6 := hp.cell 6
        have p7 := hp.cell 7
        have p8 := hp.cell 8
        simp only [List.getElem?_cons_zero, List.getElem?_cons_succ] at p0 p1 p2 p3 p4 p5 p6 p7 p8
        have c0 := r0.cell 0
        have c1 := r0.cell 1
        have c2 := r0.cell 2
        have c3 := r0.cell 3
        have c4 := r0.cell 4
        have c5 := r0.cell 5
        have c6 := r0.cell 6
        have c7 := r0.cell 7
        have c8 := r0.cell 8
        have c9 := r0.cell 9
        have c10 := r0.cell 10
        have c11 := r0.cell 11
        have c12 := r0.cell 12
        have c13 := r0.cell 13
        simp only [List.getElem?_cons_zero, List.getElem?_cons_succ] at c0 c1 c2 c3 c4 c5 c6 c7 c8 c9 c10 c11 c12 c13
        have e0 := r1.cell 0
        have e1 := r1.cell 1
        have e2 := r1.cell 2
        have e3 := r1.cell 3
        have e4 := r1.cell 4
        have e5 := r1.cell 5
        have e6 := r1.cell 6
        have e7 := r1.cell 7
        have e8 := r1.cell 8
        have e9 := r1.cell 9
        have e10 := r1.cell 10
        simp only [List.getElem?_cons_zero, List.getElem?_cons_succ] at e0 e1 e2 e3 e4 e5 e6 e7 e8 e9 e10
        have f0 := r1.frozen 0
        have f1 := r1.frozen 1
        have f2 := r1.frozen 2
        have f3 := r1.frozen 3
        have f4 := r1.frozen 4
        have f5 := r1.frozen 5
        have f6 := r1.frozen 6
        have f7 := r1.frozen 7
        have f8 := r1.frozen 8
        have f9 := r1.frozen 9
        have f10 := r1.frozen 10
        have zp := hp.lt
        have z1 := r1.lt
        clear hp r0 r1
        go_wp2
        have hS9 := Same.sets' (S := Sd g (.slice Ar p.recs.length cr) (.slice Ad p.done.length cd)) (w := w) (g := w.heap.size + 1) (by omega) (repCs nilV ({ ReplyM.zero with wall := max p.closed (min c.wall 4611686018427387904) })) 0 HSd.out
        have hq9 := Same.sets (S := fun q => q ≠ w.heap.size + 1) (g := w.heap.size + 1) (fun h => h rfl) (repCs nilV ({ ReplyM.zero with wall := max p.closed (min c.wall 4611686018427387904) })) 0 (Same.refl _ w9)
        rw [HL.out]
        exact bodyPost_ret (does_results (r := { ReplyM.zero with wall := max p.closed (min c.wall 4611686018427387904) }) (vp := nilV) (show Row _ _ _ (repCs nilV ({ ReplyM.zero with wall := max p.closed (min c.wall 4611686018427387904) })) from R1.out.sets (repCs nilV ({ ReplyM.zero with wall := max p.closed (min c.wall 4611686018427387904) })) 0) rfl) rfl ⟨_, _, _, _, rfl, HP.out.keep hq9 (by omega), Ho1.out.keepRep R1.out hq9, OwnR.nil _ _, hS9⟩
  · have hk2 : ¬ c.kind = 2 := by simpa using (‹(c.kind == 2) = false›)
    have hk3 : ¬ c.kind = 3 := by simpa using (‹(c.kind == 3) = false›)
    have hk4 : ¬ c.kind = 4 := by simpa using (‹(c.kind == 4) = false›)
    have hk5 : ¬ c.kind = 5 := by simpa using (‹(c.kind == 5) = false›)
    have hk6 : ¬ c.kind = 6 := by simpa using (‹(c.kind == 6) = false›)
    have hk7 : c.kind = 7 := by simpa using (‹(c.kind == 7) = true›)
    have HL := Lib.hid (show doesF p c = trimPF p c by unfold doesF; rw [if_neg hk2, if_neg hk3, if_neg hk4, if_neg hk5, if_neg hk6, if_pos hk7])
    clear hk2 hk3 hk4 hk5 hk6 hk7
    have HSd := Lib.hid (HSw.out.mono (S' := Sd g (.slice Ar p.recs.length cr) (.slice Ad p.done.length cd)) fun _ _ _ => trivial)
    refine wp_region_tail_lit (L := [.eq (.pointer (some ⟨g, 0, none⟩)), .eq (.pointer (some ⟨g, 0, none⟩)), .eq (.pointer (some ⟨g, 0, none⟩)), .eq (.pointer (some ⟨g, 5, none⟩)), .eq (.int .i64 p.low), .eq (.pointer (some ⟨w.heap.size, 10, none⟩)), .eq (.int .i64 c.wall), .eq (.pointer (some ⟨g, 0, none⟩)), .eq (.pointer (some ⟨g, 0, none⟩)), .eq (.pointer (some ⟨g, 4, none⟩)), .eq (.int .i64 p.closed), .eq (.int .i64 (min c.wall p.closed)), .eq (.int .i64 (max p.low (min c.wall p.closed)))]) 13 (by kernel_rfl) (by kernel_rfl) rfl rfl rfl ?_ ?_
    · refine ⟨?_, ?_, ?_, ?_, ?_, ?_, ?_, ?_, ?_, ?_, ?_, ?_, ?_, trivial⟩
      · intro ac wc hs hd hz hf hw K hK
        have e0 : ac.eval (.tmp 0) = (.pointer (some ⟨g, 0, none⟩)) := hf 0 rfl
        clear hd hz hf hw
        simp only [Region.wanted, if_true, Oper.wp, execOp, resolve, List.map_toArray, List.map_cons, List.map_nil, Option.map_some, Option.map_none, e0]
        go_simp
        exact hK _ _ rfl (Same.refl _ _)
      · intro ac wc hs hd hz hf hw K hK
        have e0 : ac.eval (.tmp 0) = (.pointer (some ⟨g, 0, none⟩)) := hf 0 rfl
        clear hd hz hf hw
        simp only [Region.wanted, if_true, Oper.wp, execOp, resolve, List.map_toArray, List.map_cons, List.map_nil, Option.map_some, Option.map_none, e0]
        go_simp
        exact hK _ _ rfl (Same.refl _ _)
      · intro ac wc hs hd hz hf hw K hK
        have e0 : ac.eval (.tmp 124) = (.pointer (some ⟨g, 0, none⟩)) := hw 1 rfl
        clear hd hz hf hw
        simp only [Region.wanted, if_true, Oper.wp, execOp, resolve, List.map_toArray, List.map_cons, List.map_nil, Option.map_some, Option.map_none, e0]
        go_simp
        exact hK _ _ rfl (Same.refl _ _)
      · intro ac wc hs hd hz hf hw K hK
        have e0 : ac.eval (.tmp 125) = (.pointer (some ⟨g, 0, none⟩)) := hw 2 rfl
        clear hd hz hf hw
        simp only [Region.wanted, if_true, Oper.wp, execOp, resolve, List.map_toArray, List.map_cons, List.map_nil, Option.map_some, Option.map_none, e0]
        go_simp
        exact hK _ _ rfl (Same.refl _ _)
      · intro ac wc hs hd hz hf hw K hK
        have e0 : ac.eval (.tmp 126) = (.pointer (some ⟨g, 5, none⟩)) := hw 3 rfl
        have m0 : wc.cell? ⟨g, 5, none⟩ = some (.int .i64 p.low) := hs.cell (p := ⟨g, 5, none⟩) trivial p5
        clear hd hz hf hw
        simp only [Region.wanted, if_true, Oper.wp, execOp, resolve, List.map_toArray, List.map_cons, List.map_nil, Option.map_some, Option.map_none, e0]
        go_simp
        exact hK _ _ rfl (Same.refl _ _)
      · intro ac wc hs hd hz hf hw K hK
        have e0 : ac.eval (.tmp 3) = (.pointer (some ⟨w.heap.size, 0, none⟩)) := hf 3 rfl
        clear hd hz hf hw
        simp only [Region.wanted, if_true, Oper.wp, execOp, resolve, List.map_toArray, List.map_cons, List.map_nil, Option.map_some, Option.map_none, e0]
        go_simp
        exact hK _ _ rfl (Same.refl _ _)
      · intro ac wc hs hd hz hf hw K hK
        have e0 : ac.eval (.tmp 128) = (.pointer (some ⟨w.heap.size, 10, none⟩)) := hw 5 rfl
        have m0 : wc.cell? ⟨w.heap.size, 10, none⟩ = some (.int .i64 c.wall) := hs.cell (p := ⟨w.heap.size, 10, none⟩) trivial c10
        clear hd hz hf hw
        simp only [Region.wanted, if_true, Oper.wp, execOp, resolve, List.map_toArray, List.map_cons, List.map_nil, Option.map_some, Option.map_none, e0]
        go_simp
        exact hK _ _ rfl (Same.refl _ _)
      · intro ac wc hs hd hz hf hw K hK
        have e0 : ac.eval (.tmp 0) = (.pointer (some ⟨g, 0, none⟩)) := hf 0 rfl
        clear hd hz hf hw
        simp only [Region.wanted, if_true, Oper.wp, execOp, resolve, List.map_toArray, List.map_cons, List.map_nil, Option.map_some, Option.map_none, e0]
        go_simp
        exact hK _ _ rfl (Same.refl _ _)
      · intro ac wc hs hd hz hf hw K hK
        have e0 : ac.eval (.tmp 130) = (.pointer (some ⟨g, 0, none⟩)) := hw 7 rfl
        clear hd hz hf hw
        simp only [Region.wanted, if_true, Oper.wp, execOp, resolve, List.map_toArray, List.map_cons, List.map_nil, Option.map_some, Option.map_none, e0]
        go_simp
        exact hK _ _ rfl (Same.refl _ _)
      · intro ac wc hs hd hz hf hw K hK
        have e0 : ac.eval (.tmp 131) = (.pointer (some ⟨g, 0, none⟩)) := hw 8 rfl
        clear hd hz hf hw
        simp only [Region.wanted, if_true, Oper.wp, execOp, resolve, List.map_toArray, List.map_cons, List.map_nil, Option.map_some, Option.map_none, e0]
        go_simp
        exact hK _ _ rfl (Same.refl _ _)
      · intro ac wc hs hd hz hf hw K hK
        have e0 : ac.eval (.tmp 132) = (.pointer (some ⟨g, 4, none⟩)) := hw 9 rfl
        have m0 : wc.cell? ⟨g, 4, none⟩ = some (.int .i64 p.closed) := hs.cell (p := ⟨g, 4, none⟩) trivial p4
        clear hd hz hf hw
        simp only [Region.wanted, if_true, Oper.wp, execOp, resolve, List.map_toArray, List.map_cons, List.map_nil, Option.map_some, Option.map_none, e0]
        go_simp
        exact hK _ _ rfl (Same.refl _ _)
      · intro ac wc hs hd hz hf hw K hK
        have e0 : ac.eval (.tmp 129) = (.int .i64 c.wall) := hw 6 rfl
        have e1 : ac.eval (.tmp 133) = (.int .i64 p.closed) := hw 10 rfl
        clear hd hz hf hw
        simp only [Region.wanted, if_true, Oper.wp, execOp, resolve, List.map_toArray, List.map_cons, List.map_nil, Option.map_some, Option.map_none, e0, e1]
        go_simp
        exact hK _ _ rfl (Same.refl _ _)
      · intro ac wc hs hd hz hf hw K hK
        have e0 : ac.eval (.tmp 127) = (.int .i64 p.low) := hw 4 rfl
        have e1 : ac.eval (.tmp 134) = (.int .i64 (min c.wall p.closed)) := hw 11 rfl
        clear hd hz hf hw
        simp only [Region.wanted, if_true, Oper.wp, execOp, resolve, List.map_toArray, List.map_cons, List.map_nil, Option.map_some, Option.map_none, e0, e1]
        go_simp
        exact hK _ _ rfl (Same.refl _ _)
    · intro vs wR hvl hvp hsR
      rcases vs with _ | ⟨z0, _ | ⟨z1, _ | ⟨z2, _ | ⟨z3, _ | ⟨z4, _ | ⟨z5, _ | ⟨z6, _ | ⟨z7, _ | ⟨z8, _ | ⟨z9, _ | ⟨z10, _ | ⟨z11, _ | ⟨z12, _ | ⟨zz, zr⟩⟩⟩⟩⟩⟩⟩⟩⟩⟩⟩⟩⟩⟩
      rotate_right 1
      · simp at hvl
      · simp at hvl
      · simp at hvl
      · simp at hvl
      · simp at hvl
      · simp at hvl
      · simp at hvl
      · simp at hvl
      · simp at hvl
      · simp at hvl
      · simp at hvl
      · simp at hvl
      · simp at hvl
      · simp at hvl
      · obtain rfl : z0 = (.pointer (some ⟨g, 0, none⟩)) := hvp 0 (by omega)
        obtain rfl : z1 = (.pointer (some ⟨g, 0, none⟩)) := hvp 1 (by omega)
        obtain rfl : z2 = (.pointer (some ⟨g, 0, none⟩)) := hvp 2 (by omega)
        obtain rfl : z3 = (.pointer (some ⟨g, 5, none⟩)) := hvp 3 (by omega)
        obtain rfl : z4 = (.int .i64 p.low) := hvp 4 (by omega)
        obtain rfl : z5 = (.pointer (some ⟨w.heap.size, 10, none⟩)) := hvp 5 (by omega)
        obtain rfl : z6 = (.int .i64 c.wall) := hvp 6 (by omega)
        obtain rfl : z7 = (.pointer (some ⟨g, 0, none⟩)) := hvp 7 (by omega)
        obtain rfl : z8 = (.pointer (some ⟨g, 0, none⟩)) := hvp 8 (by omega)
        obtain rfl : z9 = (.pointer (some ⟨g, 4, none⟩)) := hvp 9 (by omega)
        obtain rfl : z10 = (.int .i64 p.closed) := hvp 10 (by omega)
        obtain rfl : z11 = (.int .i64 (min c.wall p.closed)) := hvp 11 (by omega)
        obtain rfl : z12 = (.int .i64 (max p.low (min c.wall p.closed))) := hvp 12 (by omega)
        clear hvl hvp
        simp only [putAll, Act.put, List.setIfInBounds_toArray, List.set_cons_succ, List.set_cons_zero, List.take_succ_cons, List.take_zero, List.drop_succ_cons, List.drop_zero, List.eraseIdx_cons_succ, List.eraseIdx_cons_zero]
        have HSd := Lib.hid (HSd.out.trans' hsR fun _ _ _ => trivial)
        have Ho1 := Lib.hid (Ho1.out.keepAll hsR)
        have R1 := Lib.hid (R1.out.keep hsR trivial)
        have HP := Lib.hid (HP.out.keep hsR trivial)
        have R0 := Lib.hid (R0.out.keep hsR trivial)
        clear p0 p1 p2 p3 p4 p5 p6 p7 p8 c0 c1 c2 c3 c4 c5 c6 c7 c8 c9 c10 c11 c12 c13 e0 f0 e1 f1 e2 f2 e3 f3 e4 f4 e5 f5 e6 f6 e7 f7 e8 f8 e9 f9 e10 f10 zp z1
        clear hsR
        have hp := HP.out
        unfold partCs at hp
        have pv := hp.cell 5
        simp only [List.getElem?_cons_zero, List.getElem?_cons_succ] at pv
        have fv := hp.frozen 5
        have zp := hp.lt
        clear hp
        go_wp2
        have hp5 := HP.out.set_ 5 (.int .i64 (max p.low (min c.wall p.closed)))
        have hS5 : Same (fun q => q ≠ g) wR (wR.setCell ⟨g, 5, none⟩ (.int .i64 (max p.low (min c.wall p.closed)))) := (Same.refl _ _).setCell (fun _ h => h rfl) _
        clear pv fv zp
        revert hp5 hS5
        generalize wR.setCell _ _ = w8
        intro hp5 hS5
        have hPR := HP.out
        have HP := Lib.hid (show Row w8 g 77 (partCs (.slice Ac p.cells.length cc) (.slice Ar p.recs.length cr) (.slice Ad p.done.length cd) { p with low := max p.low (min c.wall p.closed) }) from hp5)
        have R1 := Lib.hid (R1.out.keep hS5 (by omega))
        have R0 := Lib.hid (R0.out.keep hS5 (by omega))
        have Ho1 := Lib.hid (show OwnPart w8 B (.slice Ac p.cells.length cc) (.slice Ar p.recs.length cr) (.slice Ad p.done.length cd) { p with low := max p.low (min c.wall p.closed) } from (Ho1.out.keepG hPR hS5).upd)
        have HSd := Lib.hid (HSd.out.trans' hS5 fun q _ hq => hq.1)
        have hz5 := hS5.size
        clear hp5 hS5 hPR
        have hp := HP.out.keep (Same.refl (fun _ => True) w8) trivial
        unfold partCs at hp
        have r0 := R0.out.keep (Same.refl (fun _ => True) w8) trivial
        have r1 := R1.out.keep (Same.refl (fun _ => True) w8) trivial
        have p0 := hp.cell 0
        have p1 := hp.cell 1
        have p2 := hp.cell 2
        have p3 := hp.cell 3
        have p4 := hp.cell 4
        have p5 := hp.cell 5
        have p6 := hp.cell 6
        have p7 := hp.cell 7
        have p8 := hp.cell 8
        simp only [List.getElem?_cons_zero, List.getElem?_cons_succ] at p0 p1 p2 p3 p4 p5 p6 p7 p8
        have c0 := r0.cell 0
        have c1 := r0.cell 1
        have c2 := r0.cell 2
        have c3 := r0.cell 3
        have c4 := r0.cell 4
        have c5 := r0.cell 5
        have c6 := r0.cell 6
        have c7 := r0.cell 7
        have c8 := r0.cell 8
        have c9 := r0.cell 9
        have c10 := r0.cell 10
        have c11 := r0.cell 11
        have c12 := r0.cell 12
        have c13 := r0.cell 13
        simp only [List.getElem?_cons_zero, List.getElem?_cons_succ] at c0 c1 c2 c3 c4 c5 c6 c7 c8 c9 c10 c11 c12 c13
        have e0 := r1.cell 0
        have e1 := r1.cell 1
        have e2 := r1.cell 2
        have e3 := r1.cell 3
        have e4 := r1.cell 4
        have e5 := r1.cell 5
        have e6 := r1.cell 6
        have e7 := r1.cell 7
        have e8 := r1.cell 8
        have e9 := r1.cell 9
        have e10 := r1.cell 10
        simp only [List.getElem?_cons_zero, List.getElem?_cons_succ] at e0 e1 e2 e3 e4 e5 e6 e7 e8 e9 e10
        have f0 := r1.frozen 0
        have f1 := r1.frozen 1
        have f2 := r1.frozen 2
        have f3 := r1.frozen 3
        have f4 := r1.frozen 4
        have f5 := r1.frozen 5
        have f6 := r1.frozen 6
        have f7 := r1.frozen 7
        have f8 := r1.frozen 8
        have f9 := r1.frozen 9
        have f10 := r1.frozen 10
        have zp := hp.lt
        have z1 := r1.lt
        clear hp r0 r1
        have gt := fun W (hW : Same (fun _ => True) w8 W) => mvtrim_any (.slice Ac p.cells.length cc) p.cells ⟨(max p.low (min c.wall p.closed)), 0⟩ _ W (Ho1.out.cells.reads.keepAll hW) hcl (Hf.out.vers (by omega))
        refine wp_region_tail_lit (L := [.eq (.pointer (some ⟨g, 0, none⟩)), .eq (.pointer (some ⟨g, 0, none⟩)), .eq (.pointer (some ⟨g, 0, none⟩)), .eq (.pointer (some ⟨g, 6, none⟩)), .eq (.slice Ac p.cells.length cc), .eq (.pointer (some ⟨g, 0, none⟩)), .eq (.pointer (some ⟨g, 0, none⟩)), .eq (.pointer (some ⟨g, 5, none⟩)), .eq (.int .i64 (max p.low (min c.wall p.closed))), .eq (stV ⟨(max p.low (min c.wall p.closed)), 0⟩), .of ⟨fun v w => OwnC w B v (trimF p.cells ⟨(max p.low (min c.wall p.closed)), 0⟩), fun _ _ _ h k => h.keepAll k⟩]) 11 (by kernel_rfl) (by kernel_rfl) rfl rfl rfl ?_ ?_
        · refine ⟨?_, ?_, ?_, ?_, ?_, ?_, ?_, ?_, ?_, ?_, ?_, trivial⟩
          · intro ac wc hs hd hz hf hw K hK
            have e0 : ac.eval (.tmp 0) = (.pointer (some ⟨g, 0, none⟩)) := hf 0 rfl
            clear hd hz hf hw
            simp only [Region.wanted, if_true, Oper.wp, execOp, resolve, List.map_toArray, List.map_cons, List.map_nil, Option.map_some, Option.map_none, e0]
            go_simp
            exact hK _ _ rfl (Same.refl _ _)
          · intro ac wc hs hd hz hf hw K hK
            have e0 : ac.eval (.tmp 0) = (.pointer (some ⟨g, 0, none⟩)) := hf 0 rfl
            clear hd hz hf hw
            simp only [Region.wanted, if_true, Oper.wp, execOp, resolve, List.map_toArray, List.map_cons, List.map_nil, Option.map_some, Option.map_none, e0]
            go_simp
            exact hK _ _ rfl (Same.refl _ _)
          · intro ac wc hs hd hz hf hw K hK
            have e0 : ac.eval (.tmp 139) = (.pointer (some ⟨g, 0, none⟩)) := hw 1 rfl
            clear hd hz hf hw
            simp only [Region.wanted, if_true, Oper.wp, execOp, resolve, List.map_toArray, List.map_cons, List.map_nil, Option.map_some, Option.map_none, e0]
            go_simp
            exact hK _ _ rfl (Same.refl _ _)
          · intro ac wc hs hd hz hf hw K hK
            have e0 : ac.eval (.tmp 140) = (.pointer (some ⟨g, 0, none⟩)) := hw 2 rfl
            clear hd hz hf hw
            simp only [Region.wanted, if_true, Oper.wp, execOp, resolve, List.map_toArray, List.map_cons, List.map_nil, Option.map_some, Option.map_none, e0]
            go_simp
            exact hK _ _ rfl (Same.refl _ _)
          · intro ac wc hs hd hz hf hw K hK
            have e0 : ac.eval (.tmp 141) = (.pointer (some ⟨g, 6, none⟩)) := hw 3 rfl
            have m0 : wc.cell? ⟨g, 6, none⟩ = some (.slice Ac p.cells.length cc) := hs.cell (p := ⟨g, 6, none⟩) trivial p6
            clear hd hz hf hw
            simp only [Region.wanted, if_true, Oper.wp, execOp, resolve, List.map_toArray, List.map_cons, List.map_nil, Option.map_some, Option.map_none, e0]
            go_simp
            exact hK _ _ rfl (Same.refl _ _)
          · intro ac wc hs hd hz hf hw K hK
            have e0 : ac.eval (.tmp 0) = (.pointer (some ⟨g, 0, none⟩)) := hf 0 rfl
            clear hd hz hf hw
            simp only [Region.wanted, if_true, Oper.wp, execOp, resolve, List.map_toArray, List.map_cons, List.map_nil, Option.map_some, Option.map_none, e0]
            go_simp
            exact hK _ _ rfl (Same.refl _ _)
          · intro ac wc hs hd hz hf hw K hK
            have e0 : ac.eval (.tmp 143) = (.pointer (some ⟨g, 0, none⟩)) := hw 5 rfl
            clear hd hz hf hw
            simp only [Region.wanted, if_true, Oper.wp, execOp, resolve, List.map_toArray, List.map_cons, List.map_nil, Option.map_some, Option.map_none, e0]
            go_simp
            exact hK _ _ rfl (Same.refl _ _)
          · intro ac wc hs hd hz hf hw K hK
            have e0 : ac.eval (.tmp 144) = (.pointer (some ⟨g, 0, none⟩)) := hw 6 rfl
            clear hd hz hf hw
            simp only [Region.wanted, if_true, Oper.wp, execOp, resolve, List.map_toArray, List.map_cons, List.map_nil, Option.map_some, Option.map_none, e0]
            go_simp
            exact hK _ _ rfl (Same.refl _ _)
          · intro ac wc hs hd hz hf hw K hK
            have e0 : ac.eval (.tmp 145) = (.pointer (some ⟨g, 5, none⟩)) := hw 7 rfl
            have m0 : wc.cell? ⟨g, 5, none⟩ = some (.int .i64 (max p.low (min c.wall p.closed))) := hs.cell (p := ⟨g, 5, none⟩) trivial p5
            clear hd hz hf hw
            simp only [Region.wanted, if_true, Oper.wp, execOp, resolve, List.map_toArray, List.map_cons, List.map_nil, Option.map_some, Option.map_none, e0]
            go_simp
            exact hK _ _ rfl (Same.refl _ _)
          · intro ac wc hs hd hz hf hw K hK
            have e0 : ac.eval (.tmp 146) = (.int .i64 (max p.low (min c.wall p.closed))) := hw 8 rfl
            clear hd hz hf hw
            simp only [Region.wanted, if_true, Oper.wp, execOp, resolve, List.map_toArray, List.map_cons, List.map_nil, Option.map_some, Option.map_none, e0]
            go_simp
            exact hK _ _ rfl (Same.refl _ _)
          · intro ac wc hs hd hz hf hw K hK
            have e0 : ac.eval (.tmp 142) = (.slice Ac p.cells.length cc) := hw 4 rfl
            have e1 : ac.eval (.tmp 147) = (stV ⟨(max p.low (min c.wall p.closed)), 0⟩) := hw 9 rfl
            clear hd hz hf hw
            simp only [Region.wanted, if_true, Oper.wp, execOp, resolve, List.map_toArray, List.map_cons, List.map_nil, Option.map_some, Option.map_none, e0, e1]
            go_simp
            refine (gt wc hs).mono ?_
            rintro e wd ⟨u, rfl, hown, hS⟩
            exact hK _ _ (hown.lower (by have := hs.size; omega)) hS
        · intro vs wR hvl hvp hsR
          rcases vs with _ | ⟨z0, _ | ⟨z1, _ | ⟨z2, _ | ⟨z3, _ | ⟨z4, _ | ⟨z5, _ | ⟨z6, _ | ⟨z7, _ | ⟨z8, _ | ⟨z9, _ | ⟨z10, _ | ⟨zz, zr⟩⟩⟩⟩⟩⟩⟩⟩⟩⟩⟩⟩
          rotate_right 1
          · simp at hvl
          · simp at hvl
          · simp at hvl
          · simp at hvl
          · simp at hvl
          · simp at hvl
          · simp at hvl
          · simp at hvl
          · simp at hvl
          · simp at hvl
          · simp at hvl
          · simp at hvl
          · obtain rfl : z0 = (.pointer (some ⟨g, 0, none⟩)) := hvp 0 (by omega)
            obtain rfl : z1 = (.pointer (some ⟨g, 0, none⟩)) := hvp 1 (by omega)
            obtain rfl : z2 = (.pointer (some ⟨g, 0, none⟩)) := hvp 2 (by omega)
            obtain rfl : z3 = (.pointer (some ⟨g, 6, none⟩)) := hvp 3 (by omega)
            obtain rfl : z4 = (.slice Ac p.cells.length cc) := hvp 4 (by omega)
            obtain rfl : z5 = (.pointer (some ⟨g, 0, none⟩)) := hvp 5 (by omega)
            obtain rfl : z6 = (.pointer (some ⟨g, 0, none⟩)) := hvp 6 (by omega)
            obtain rfl : z7 = (.pointer (some ⟨g, 5, none⟩)) := hvp 7 (by omega)
            obtain rfl : z8 = (.int .i64 (max p.low (min c.wall p.closed))) := hvp 8 (by omega)
            obtain rfl : z9 = (stV ⟨(max p.low (min c.wall p.closed)), 0⟩) := hvp 9 (by omega)
            have hxc : (⟨fun v w => OwnC w B v (trimF p.cells ⟨(max p.low (min c.wall p.closed)), 0⟩), fun _ _ _ h k => h.keepAll k⟩ : SP).p z10 wR := hvp 10 (by omega)
            clear hvl hvp
            simp only [putAll, Act.put, List.setIfInBounds_toArray, List.set_cons_succ, List.set_cons_zero, List.take_succ_cons, List.take_zero, List.drop_succ_cons, List.drop_zero, List.eraseIdx_cons_succ, List.eraseIdx_cons_zero]
            have HSd := Lib.hid (HSd.out.trans' hsR fun _ _ _ => trivial)
            have Ho1 := Lib.hid (Ho1.out.keepAll hsR)
            have R1 := Lib.hid (R1.out.keep hsR trivial)
            have HP := Lib.hid (HP.out.keep hsR trivial)
            have R0 := Lib.hid (R0.out.keep hsR trivial)
            clear p0 p1 p2 p3 p4 p5 p6 p7 p8 c0 c1 c2 c3 c4 c5 c6 c7 c8 c9 c10 c11 c12 c13 e0 f0 e1 f1 e2 f2 e3 f3 e4 f4 e5 f5 e6 f6 e7 f7 e8 f8 e9 f9 e10 f10 zp z1
            clear hsR
            obtain ⟨Ay, ny, cy, rfl, -, -⟩ := hxc.form3
            have HXC := Lib.hid hxc
            clear hxc gt
            have hp := HP.out
            unfold partCs at hp
            have pv := hp.cell 6
            simp only [List.getElem?_cons_zero, List.getElem?_cons_succ] at pv
            have fv := hp.frozen 6
            have zp := hp.lt
            clear hp
            go_wp2_with (with_reducible refine stopDst 154 rfl ?_)
            unfold Hid
            have hp5 := HP.out.set_ 6 (.slice Ay ny cy)
            have hS5 : Same (fun q => q ≠ g) wR (wR.setCell ⟨g, 6, none⟩ (.slice Ay ny cy)) := (Same.refl _ _).setCell (fun _ h => h rfl) _
            clear pv fv zp
            revert hp5 hS5
            generalize wR.setCell _ _ = w9
            intro hp5 hS5
            have hPR := HP.out
            have HP := Lib.hid (show Row w9 g 77 (partCs (.slice Ay ny cy) (.slice Ar p.recs.length cr) (.slice Ad p.done.length cd) { p with low := max p.low (min c.wall p.closed), cells := trimF p.cells ⟨max p.low (min c.wall p.closed), 0⟩ }) from hp5)
            have R1 := Lib.hid (R1.out.keep hS5 (by omega))
            have R0 := Lib.hid (R0.out.keep hS5 (by omega))
            have Ho1 := Lib.hid (show OwnPart w9 B (.slice Ay ny cy) (.slice Ar p.recs.length cr) (.slice Ad p.done.length cd) { p with low := max p.low (min c.wall p.closed), cells := trimF p.cells ⟨max p.low (min c.wall p.closed), 0⟩ } from ⟨HXC.out.keepG hPR (by decide) (by decide) hS5, OwnR.keepG Ho1.out.recs hPR (by decide) hS5, OwnR.keepG Ho1.out.done hPR (by decide) hS5, Ho1.out.apart⟩)
            have HSd := Lib.hid (HSd.out.trans' hS5 fun q _ hq => hq.1)
            have hz5 := hS5.size
            clear hp5 hS5 hPR
            have hp := HP.out.keep (Same.refl (fun _ => True) w9) trivial
            unfold partCs at hp
            have r0 := R0.out.keep (Same.refl (fun _ => True) w9) trivial
            have r1 := R1.out.keep (Same.refl (fun _ => True) w9) trivial
            have p0 := hp.cell 0
            have p1 := hp.cell 1
            have p2 := hp.cell 2
            have p3 := hp.cell 3
            have p4 := hp.cell 4
            have p5 := hp.cell 5
            have p6 := hp.cell 6
            have p7 := hp.cell 7
            have p8 := hp.cell 8
            simp only [List.getElem?_cons_zero, List.getElem?_cons_succ] at p0 p1 p2 p3 p4 p5 p6 p7 p8
            have c0 := r0.cell 0
            have c1 := r0.cell 1
            have c2 := r0.cell 2
            have c3 := r0.cell 3
            have c4 := r0.cell 4
            have c5 := r0.cell 5
            have c6 := r0.cell 6
            have c7 := r0.cell 7
            have c8 := r0.cell 8
            have c9 := r0.cell 9
            have c10 := r0.cell 10
            have c11 := r0.cell 11
            have c12 := r0.cell 12
            have c13 := r0.cell 13
            simp only [List.getElem?_cons_zero, List.getElem?_cons_succ] at c0 c1 c2 c3 c4 c5 c6 c7 c8 c9 c10 c11 c12 c13
            have e0 := r1.cell 0
            have e1 := r1.cell 1
            have e2 := r1.cell 2
            have e3 := r1.cell 3
            have e4 := r1.cell 4
            have e5 := r1.cell 5
            have e6 := r1.cell 6
            have e7 := r1.cell 7
            have e8 := r1.cell 8
            have e9 := r1.cell 9
            have e10 := r1.cell 10
            simp only [List.getElem?_cons_zero, List.getElem?_cons_succ] at e0 e1 e2 e3 e4 e5 e6 e7 e8 e9 e10
            have f0 := r1.frozen 0
            have f1 := r1.frozen 1
            have f2 := r1.frozen 2
            have f3 := r1.frozen 3
            have f4 := r1.frozen 4
            have f5 := r1.frozen 5
            have f6 := r1.frozen 6
            have f7 := r1.frozen 7
            have f8 := r1.frozen 8
            have f9 := r1.frozen 9
            have f10 := r1.frozen 10
            have zp := hp.lt
            have z1 := r1.lt
            clear hp r0 r1
            go_wp2
            have hS9 := Same.sets' (S := Sd g (.slice Ar p.recs.length cr) (.slice Ad p.done.length cd)) (w := w) (g := w.heap.size + 1) (by omega) (repCs nilV ({ ReplyM.zero with wall := max p.low (min c.wall p.closed) })) 0 HSd.out
            have hq9 := Same.sets (S := fun q => q ≠ w.heap.size + 1) (g := w.heap.size + 1) (fun h => h rfl) (repCs nilV ({ ReplyM.zero with wall := max p.low (min c.wall p.closed) })) 0 (Same.refl _ w9)
            rw [HL.out]
            exact bodyPost_ret (does_results (r := { ReplyM.zero with wall := max p.low (min c.wall p.closed) }) (vp := nilV) (show Row _ _ _ (repCs nilV ({ ReplyM.zero with wall := max p.low (min c.wall p.closed) })) from R1.out.sets (repCs nilV ({ ReplyM.zero with wall := max p.low (min c.wall p.closed) })) 0) rfl) rfl ⟨_, _, _, _, rfl, HP.out.keep hq9 (by omega), Ho1.out.keepRep R1.out hq9, OwnR.nil _ _, hS9⟩
  · have hk2 : ¬ c.kind = 2 := by simpa using (‹(c.kind == 2) = false›)
    have hk3 : ¬ c.kind = 3 := by simpa using (‹(c.kind == 3) = false›)
    have hk4 : ¬ c.kind = 4 := by simpa using (‹(c.kind == 4) = false›)
    have hk5 : ¬ c.kind = 5 := by simpa using (‹(c.kind == 5) = false›)
    have hk6 : ¬ c.kind = 6 := by simpa using (‹(c.kind == 6) = false›)
    have hk7 : ¬ c.kind = 7 := by simpa using (‹(c.kind == 7) = false›)
    have HL := Lib.hid (show doesF p c = (p, repErr 9) by unfold doesF; rw [if_neg hk2, if_neg hk3, if_neg hk4, if_neg hk5, if_neg hk6, if_neg hk7])
    clear hk2 hk3 hk4 hk5 hk6 hk7
    have hS9 := Same.sets' (S := Sd g (.slice Ar p.recs.length cr) (.slice Ad p.done.length cd)) (w := w) (g := w.heap.size + 1) (by omega) (repCs nilV (repErr 9)) 0 (HSw.out.mono fun _ _ _ => trivial)
    have hq9 := Same.sets (S := fun q => q ≠ w.heap.size + 1) (g := w.heap.size + 1) (fun h => h rfl) (repCs nilV (repErr 9)) 0 (Same.refl _ w1)
    rw [HL.out]
    exact bodyPost_ret (does_results (r := repErr 9) (vp := nilV) (show Row _ _ _ (repCs nilV (repErr 9)) from R1.out.sets (repCs nilV (repErr 9)) 0) rfl) rfl ⟨_, _, _, _, rfl, HP.out.keep hq9 (by omega), Ho1.out.keepRep R1.out hq9, OwnR.nil _ _, hS9⟩
end Go.Proofs.Ytoldelocfmpccaa
