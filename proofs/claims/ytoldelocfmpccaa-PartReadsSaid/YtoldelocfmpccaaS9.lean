/-
  Words, plain models, laws and walks that the claims of this layer share (joined by shake.py). No condition.
-/
import Derived.Test.YtoldelocfmpccaaS1
import Derived.Test.YtoldelocfmpccaaS2
import Derived.Test.YtoldelocfmpccaaS3
import Derived.Test.YtoldelocfmpccaaS4
import Derived.Test.YtoldelocfmpccaaS5
import Derived.Test.YtoldelocfmpccaaS6
import Derived.Test.YtoldelocfmpccaaS7
import Derived.Test.YtoldelocfmpccaaS8
set_option linter.unusedSimpArgs false
set_option linter.unusedVariables false
namespace Go.Proofs.Ytoldelocfmpccaa
open Go.RowKit
abbrev WrR (w : World) (S : Nat → Prop) (v : Value) (l : List Wr) : Prop := RowR wrCs 3 w S v l
theorem WrR.form {w : World} {S : Nat → Prop} {v : Value} {l : List Wr} (h : WrR w S v l) : ∃ A c, v = .slice A l.length c ∧ l.length ≤ c ∧ c ≤ maxLen := by
  obtain ⟨A, c, h1, h2, h3, _⟩ := h
  exact ⟨A, c, h1, h2, h3⟩
theorem WrR.cells {w : World} {S : Nat → Prop} {A : Option Addr} {n c : Nat} {l : List Wr} (h : WrR w S (.slice A n c) l) {i : Nat} (hi : i < l.length) : ∃ ad, A = some ad ∧ S ad.block ∧
    w.cell? (ad.add (i * 3)) = some (.string (str l[i].key)) ∧ w.cell? ⟨(ad.add (i * 3)).block, (ad.add (i * 3)).off + 1, none⟩ = some (.bool l[i].drop) ∧ w.cell? ⟨(ad.add (i * 3)).block, (ad.add (i * 3)).off + 2, none⟩ = some (.string (str l[i].data)) := by
  obtain ⟨ad, c, h1, h2, h3, h4, h5⟩ := RowR.at_ h (fun _ => rfl) hi
  injection h1 with h1 _ _
  exact ⟨ad, h1, h4, by have := h5 0 (by omega); rwa [add_zero] at this, h5 1 (by omega), h5 2 (by omega)⟩
/-- The first lock of a key that shall be written. -/
def heldFirst (cs : List Cel) : List Wr → Option Lck
  | [] => none
  | x :: l => if (heldF cs x.key).2 then some (heldF cs x.key).1 else heldFirst cs l
def lockOne (c : CmdM) (cs : List Cel) (x : Wr) : List Cel := lockF cs x.key (lockW x ⟨c.by_, c.home, c.at_, false, []⟩)
def lockAll (c : CmdM) (cs : List Cel) (l : List Wr) : List Cel := l.foldl (lockOne c) cs
def prepareF (p : PartM) (c : CmdM) : PartM × ReplyM :=
  if (findO p.done c.by_).2 then (p, { ReplyM.zero with err := 26, yes := (findO p.done c.by_).1.yes })
  else if mineF p.cells c.by_ then (p, ReplyM.zero)
  else if c.at_.wall ≤ p.closed then (p, { ReplyM.zero with err := 21, wall := p.closed })
  else if lessB c.at_ p.floor then (p, { ReplyM.zero with err := 22, at_ := p.floor })
  else match heldFirst p.cells c.writes with
    | some l => (p, lockedR l)
    | none => ({ p with cells := lockAll c p.cells c.writes }, ReplyM.zero)
theorem held_step {cs : List Cel} {l : List Wr} {k : Nat} (h : k < l.length) : heldFirst cs (l.drop k) = if (heldF cs l[k].key).2 then some (heldF cs l[k].key).1 else heldFirst cs (l.drop (k + 1)) := by
  rw [List.drop_eq_getElem_cons h]; rfl
theorem lockAll_step {c : CmdM} {cs : List Cel} {l : List Wr} {k : Nat} (h : k < l.length) : lockAll c cs (l.take (k + 1)) = lockOne c (lockAll c cs (l.take k)) l[k] := by
  unfold lockAll
  rw [List.take_succ_eq_append_getElem h, List.foldl_append]
  rfl
theorem lockAll_fine {c : CmdM} {cs : List Cel} {n : Nat} (h : Fine n cs) : ∀ l : List Wr, Fine (n + l.length) (lockAll c cs l) := by
  intro l
  unfold lockAll
  induction l generalizing cs n with
  | nil => exact h
  | cons x l ih =>
    have := ih (cs := lockOne c cs x) (n := n + 1) (h.lock x _)
    rw [List.length_cons, show n + (l.length + 1) = n + 1 + l.length by omega]
    exact this
theorem prepare_results {W : World} {k : Nat} {vp : Value} {r : ReplyM} (R : Row W k 85 (repCs vp r)) {tmps : Array Value} (h2 : tmps.getD 4 undef = .pointer (some ⟨k, 0, none⟩)) :
    (results Try.f105 tmps).run Try.prog W = .ok (repV vp r) W := by
  have d0 := R.cell 0
  have d1 := R.cell 1
  have d2 := R.cell 2
  have d3 := R.cell 3
  have d4 := R.cell 4
  have d5 := R.cell 5
  have d6 := R.cell 6
  have d7 := R.cell 7
  have d8 := R.cell 8
  have d9 := R.cell 9
  have d10 := R.cell 10
  simp only [repCs, List.getElem?_cons_zero, List.getElem?_cons_succ] at d0 d1 d2 d3 d4 d5 d6 d7 d8 d9 d10
  simp at h2
  simp [results, Try.results105, h2, go_sem, d0, d1, d2, d3, d4, d5, d6, d7, d8, d9, d10]
set_option maxRecDepth 100000 in
set_option maxHeartbeats 8000000 in
theorem prepare_any (g B N : Nat) (S : Nat → Prop) (vc vr vd vs vw : Value) (p : PartM) (c : CmdM) (w : World) (hr : Row w g 77 (partCs vc vr vd p)) (ho : OwnPart w B vc vr vd p) (hB : B ≤ g) (hBw : B ≤ w.heap.size) (hf : Fine N p.cells) (hN : N + c.writes.length ≤ 100000) (hsp : WrR w S vw c.writes) (hS : ∀ k, S k → k < B) :
    Calls Try.prog 105 #[.pointer (some ⟨g, 0, none⟩), cmdV vs vw c] w (DoesP B g vr vd (prepareF p c) w) := by
  have r0 := (Row.new w 81 (cmdCs vs vw c)).keep ((Same.refl (fun _ => True) _).alloc (.cells (repCs nilV ReplyM.zero).toArray 85)) trivial
  have r1 := Row.new (w.alloc (.cells (cmdCs vs vw c).toArray 81)) 85 (repCs nilV ReplyM.zero)
  have hS0 := ((Same.refl (fun _ => True) w).alloc (.cells (cmdCs vs vw c).toArray 81)).alloc (.cells (repCs nilV ReplyM.zero).toArray 85)
  rw [World.size_alloc] at r1
  have hcl := hf.len (by omega)
  have Hf := Lib.hid hf
  have Ho := Lib.hid ho
  have Hr := Lib.hid hr
  have Hsp := Lib.hid hsp
  have HSB := Lib.hid hS
  obtain ⟨As, cs_, rfl, hs1, hs2⟩ := WrR.form hsp
  obtain ⟨Ac, cc, rfl, hc1, hc2⟩ := ho.cells.form
  obtain ⟨Ad, cd, rfl, hd1, hd2⟩ := OwnR.form ho.done
  unfold maxLen at hs2 hc2 hd2
  have hgl := hr.lt
  clear ho hr hf hsp hS
  have hp := Hr.out.keep hS0 trivial
  have z1 := r1.lt
  go_enter Try.func105, Try.ntmps105
  go_wp2
  simp only [partCs, cmdCs, repCs, ReplyM.zero] at r0 r1 hp hS0
  revert r0 r1 hS0 hp z1
  generalize (w.alloc _).alloc _ = w1
  intro r0 r1 hS0 hp z1
  have R0 := Lib.hid r0
  have R1 := Lib.hid r1
  have HP := Lib.hid hp
  have HS0 := Lib.hid hS0
  have HSw := Lib.hid hS0
  clear r0 r1 hp hS0 z1
  have hp := HP.out.keep (Same.refl (fun _ => True) w1) trivial
  have r0 := R0.out.keep (Same.refl (fun _ => True) w1) trivial
  have r1 := R1.out.keep (Same.refl (fun _ => True) w1) trivial
  have p0 := hp.cell 0
  have p1 := hp.cell 1
  have p2 := hp.cell 2
  have p3 := hp.cell 3
  have p4 := hp.cell 4
  have p5 := hp.cell 5
  have p6 := hp.cell 6
  have p7 := hp.cell 7
  have p8 := hp.cell 8
  simp only [List.getElem?_cons_zero, List.getElem?_cons_succ] at p0 p1 p2 p3 p4 p5 p6 p7 p8
  have c0 := r0.cell 0
  have c1 := r0.cell 1
  have c2 := r0.cell 2
  have c3 := r0.cell 3
  have c4 := r0.cell 4
  have c5 := r0.cell 5
  have c6 := r0.cell 6
  have c7 := r0.cell 7
  have c8 := r0.cell 8
  have c9 := r0.cell 9
  have c10 := r0.cell 10
  have c11 := r0.cell 11
  have c12 := r0.cell 12
  have c13 := r0.cell 13
  simp only [List.getElem?_cons_zero, List.getElem?_cons_succ] at c0 c1 c2 c3 c4 c5 c6 c7 c8 c9 c10 c11 c12 c13
  have e0 := r1.cell 0
  have e1 := r1.cell 1
  have e2 := r1.cell 2
  have e3 := r1.cell 3
  have e4 := r1.cell 4
  have e5 := r1.cell 5
  have e6 := r1.cell 6
  have e7 := r1.cell 7
  have e8 := r1.cell 8
  have e9 := r1.cell 9
  have e10 := r1.cell 10
  simp only [List.getElem?_cons_zero, List.getElem?_cons_succ] at e0 e1 e2 e3 e4 e5 e6 e7 e8 e9 e10
  have f0 := r1.frozen 0
  have f1 := r1.frozen 1
  have f2 := r1.frozen 2
  have f3 := r1.frozen 3
  have f4 := r1.frozen 4
  have f5 := r1.frozen 5
  have f6 := r1.frozen 6
  have f7 := r1.frozen 7
  have f8 := r1.frozen 8
  have f9 := r1.frozen 9
  have f10 := r1.frozen 10
  have zp := hp.lt
  have z1 := r1.lt
  clear hp r0 r1
  have gf := fun W (hW : Same (fun _ => True) w1 W) => find_any (.slice Ad p.done.length cd) p.done c.by_ _ W (RowR.keepAll ((OwnR.wr (Ho.out.done.keepAll HS0.out)).row outCs_len) hW)
  obtain ⟨⟨o, is⟩, hfo⟩ : ∃ r, r = findO p.done c.by_ := ⟨_, rfl⟩
  rw [← hfo] at gf
  have Hfo := Lib.hid hfo
  clear hfo
  go_cut [5, 6] from 13 to 108 (fun v5 v6 wx => v6 = .bool is ∧ ∃ gl, v5 = .pointer (some ⟨gl, 0, none⟩) ∧ Row wx gl 93 (outCs o) ∧ Same (fun _ => True) w1 wx)
  case first =>
    refine wp_region_tail_d (L := [.eq (.pointer (some ⟨g, 0, none⟩)), .eq (.pointer (some ⟨g, 0, none⟩)), .eq (.pointer (some ⟨g, 8, none⟩)), .eq (.slice Ad p.done.length cd), .eq (.pointer (some ⟨w.heap.size, 4, none⟩)), .eq (tryV c.by_), .eq (.tuple #[outV o, .bool is]), .eq (.tuple #[outV o, .bool is]), .eq (outV o), .eq (.bool is), .of ⟨fun v w => ∃ gl, v = .pointer (some ⟨gl, 0, none⟩) ∧ w1.heap.size ≤ gl ∧ Row w gl 93 (outCs Out.zero), fun _ _ _ ⟨gl, h1, h2, h3⟩ k => ⟨gl, h1, h2, h3.keep k trivial⟩⟩]) 11 9 (by omega) (by kernel_rfl) (by kernel_rfl) rfl rfl rfl rfl rfl rfl ?_ ?_ ?_
    · refine ⟨?_, ?_, ?_, ?_, ?_, ?_, ?_, ?_, ?_, ?_, ?_, trivial⟩
      · intro ac wc hs hd hz hf hw K hK
        have e0 : ac.eval (.tmp 0) = (.pointer (some ⟨g, 0, none⟩)) := hf 0 rfl
        clear hd hz hf hw
        simp only [Region.wanted, if_true, Oper.wp, execOp, resolve, List.map_toArray, List.map_cons, List.map_nil, Option.map_some, Option.map_none, e0]
        go_simp
        exact hK _ _ rfl (Same.refl _ _)
      · intro ac wc hs hd hz hf hw K hK
        have e0 : ac.eval (.tmp 14) = (.pointer (some ⟨g, 0, none⟩)) := hw 0 rfl
        clear hd hz hf hw
        simp only [Region.wanted, if_true, Oper.wp, execOp, resolve, List.map_toArray, List.map_cons, List.map_nil, Option.map_some, Option.map_none, e0]
        go_simp
        exact hK _ _ rfl (Same.refl _ _)
      · intro ac wc hs hd hz hf hw K hK
        have e0 : ac.eval (.tmp 15) = (.pointer (some ⟨g, 0, none⟩)) := hw 1 rfl
        clear hd hz hf hw
        simp only [Region.wanted, if_true, Oper.wp, execOp, resolve, List.map_toArray, List.map_cons, List.map_nil, Option.map_some, Option.map_none, e0]
        go_simp
        exact hK _ _ rfl (Same.refl _ _)
      · intro ac wc hs hd hz hf hw K hK
        have e0 : ac.eval (.tmp 16) = (.pointer (some ⟨g, 8, none⟩)) := hw 2 rfl
        have m0 : wc.cell? ⟨g, 8, none⟩ = some (.slice Ad p.done.length cd) := hs.cell (p := ⟨g, 8, none⟩) trivial p8
        clear hd hz hf hw
        simp only [Region.wanted, if_true, Oper.wp, execOp, resolve, List.map_toArray, List.map_cons, List.map_nil, Option.map_some, Option.map_none, e0]
        go_simp
        exact hK _ _ rfl (Same.refl _ _)
      · intro ac wc hs hd hz hf hw K hK
        have e0 : ac.eval (.tmp 3) = (.pointer (some ⟨w.heap.size, 0, none⟩)) := hf 3 rfl
        clear hd hz hf hw
        simp only [Region.wanted, if_true, Oper.wp, execOp, resolve, List.map_toArray, List.map_cons, List.map_nil, Option.map_some, Option.map_none, e0]
        go_simp
        exact hK _ _ rfl (Same.refl _ _)
      · intro ac wc hs hd hz hf hw K hK
        have e0 : ac.eval (.tmp 18) = (.pointer (some ⟨w.heap.size, 4, none⟩)) := hw 4 rfl
        have m0 : wc.cell? ⟨w.heap.size, 4, none⟩ = some (.int .i64 c.by_.node) := hs.cell (p := ⟨w.heap.size, 4, none⟩) trivial c4
        have m1 : wc.cell? ⟨w.heap.size, 5, none⟩ = some (.int .i64 c.by_.life) := hs.cell (p := ⟨w.heap.size, 5, none⟩) trivial c5
        have m2 : wc.cell? ⟨w.heap.size, 6, none⟩ = some (.int .i64 c.by_.seq) := hs.cell (p := ⟨w.heap.size, 6, none⟩) trivial c6
        have m3 : wc.cell? ⟨w.heap.size, 7, none⟩ = some (.int .i64 c.by_.attempt) := hs.cell (p := ⟨w.heap.size, 7, none⟩) trivial c7
        clear hd hz hf hw
        simp only [Region.wanted, if_true, Oper.wp, execOp, resolve, List.map_toArray, List.map_cons, List.map_nil, Option.map_some, Option.map_none, e0]
        go_simp
        exact hK _ _ rfl (Same.refl _ _)
      · intro ac wc hs hd hz hf hw K hK
        have e0 : ac.eval (.tmp 17) = (.slice Ad p.done.length cd) := hw 3 rfl
        have e1 : ac.eval (.tmp 19) = (tryV c.by_) := hw 5 rfl
        clear hd hz hf hw
        simp only [Region.wanted, if_true, Oper.wp, execOp, resolve, List.map_toArray, List.map_cons, List.map_nil, Option.map_some, Option.map_none, e0, e1]
        go_simp
        refine (gf wc hs).mono ?_
        rintro e wd ⟨rfl, hs2⟩
        exact hK _ _ rfl hs2
      · intro ac wc hs hd hz hf hw K hK
        have e0 : ac.eval (.tmp 20) = (.tuple #[outV o, .bool is]) := hw 6 rfl
        clear hd hz hf hw
        simp only [Region.wanted, if_true, Oper.wp, execOp, resolve, List.map_toArray, List.map_cons, List.map_nil, Option.map_some, Option.map_none, e0]
        go_simp
        exact hK _ _ rfl (Same.refl _ _)
      · intro ac wc hs hd hz hf hw K hK
        have e0 : ac.eval (.tmp 13) = (.tuple #[outV o, .bool is]) := hw 7 rfl
        clear hd hz hf hw
        simp only [Region.wanted, if_true, Oper.wp, execOp, resolve, List.map_toArray, List.map_cons, List.map_nil, Option.map_some, Option.map_none, e0]
        go_simp
        exact hK _ _ rfl (Same.refl _ _)
      · intro ac wc hs hd hz hf hw K hK
        have e0 : ac.eval (.tmp 13) = (.tuple #[outV o, .bool is]) := hw 7 rfl
        clear hd hz hf hw
        simp only [Region.wanted, if_true, Oper.wp, execOp, resolve, List.map_toArray, List.map_cons, List.map_nil, Option.map_some, Option.map_none, e0]
        go_simp
        exact hK _ _ rfl (Same.refl _ _)
      · intro ac wc hs hd hz hf hw K hK
        clear hd hz hf hw
        simp only [Region.wanted, if_true, Oper.wp, execOp, resolve, List.map_toArray, List.map_cons, List.map_nil, Option.map_some, Option.map_none]
        go_simp
        exact hK _ _ ⟨_, rfl, hs.size, Row.new _ _ (outCs Out.zero)⟩ ((Same.refl _ _).alloc _)
    · intro vs wR hvl hvp hsR
      rcases vs with _ | ⟨z0, _ | ⟨z1, _ | ⟨z2, _ | ⟨z3, _ | ⟨z4, _ | ⟨z5, _ | ⟨z6, _ | ⟨z7, _ | ⟨z8, _ | ⟨z9, _ | ⟨z10, _ | ⟨zz, zr⟩⟩⟩⟩⟩⟩⟩⟩⟩⟩⟩⟩
      rotate_right 1
      · simp at hvl
      · simp at hvl
      · simp at hvl
      · simp at hvl
      · simp at hvl
      · simp at hvl
      · simp at hvl
      · simp at hvl
      · simp at hvl
      · simp at hvl
      · simp at hvl
      · simp at hvl
      · obtain rfl : z0 = (.pointer (some ⟨g, 0, none⟩)) := hvp 0 (by omega)
        obtain rfl : z1 = (.pointer (some ⟨g, 0, none⟩)) := hvp 1 (by omega)
        obtain rfl : z2 = (.pointer (some ⟨g, 8, none⟩)) := hvp 2 (by omega)
        obtain rfl : z3 = (.slice Ad p.done.length cd) := hvp 3 (by omega)
        obtain rfl : z4 = (.pointer (some ⟨w.heap.size, 4, none⟩)) := hvp 4 (by omega)
        obtain rfl : z5 = (tryV c.by_) := hvp 5 (by omega)
        obtain rfl : z6 = (.tuple #[outV o, .bool is]) := hvp 6 (by omega)
        obtain rfl : z7 = (.tuple #[outV o, .bool is]) := hvp 7 (by omega)
        obtain rfl : z8 = (outV o) := hvp 8 (by omega)
        obtain rfl : z9 = (.bool is) := hvp 9 (by omega)
        have hxo : (⟨fun v w => ∃ gl, v = .pointer (some ⟨gl, 0, none⟩) ∧ w1.heap.size ≤ gl ∧ Row w gl 93 (outCs Out.zero), fun _ _ _ ⟨gl, h1, h2, h3⟩ k => ⟨gl, h1, h2, h3.keep k trivial⟩⟩ : SP).p z10 wR := hvp 10 (by omega)
        clear hvl hvp
        simp only [putAll, Act.put, List.setIfInBounds_toArray, List.set_cons_succ, List.set_cons_zero, List.take_succ_cons, List.take_zero, List.drop_succ_cons, List.drop_zero, List.eraseIdx_cons_succ, List.eraseIdx_cons_zero]
        obtain ⟨gl, rfl, hgl2, hrl⟩ := hxo
        have zl := hrl.lt
        have RL := Lib.hid hrl
        have l0 := hrl.cell 0
        have l1 := hrl.cell 1
        have l2 := hrl.cell 2
        have l3 := hrl.cell 3
        have l4 := hrl.cell 4
        have l5 := hrl.cell 5
        have l6 := hrl.cell 6
        simp only [outCs, Out.zero, List.getElem?_cons_zero, List.getElem?_cons_succ] at l0 l1 l2 l3 l4 l5 l6
        have h0 := hrl.frozen 0
        have h1 := hrl.frozen 1
        have h2 := hrl.frozen 2
        have h3 := hrl.frozen 3
        have h4 := hrl.frozen 4
        have h5 := hrl.frozen 5
        have h6 := hrl.frozen 6
        clear hrl
        go_wp2
        go_meet
        exact ⟨rfl, gl, rfl, RL.out.sets (outCs o) 0, Same.sets' (by omega) (outCs o) 0 hsR⟩
    · intro vs wR hvl hvp hsR
      rcases vs with _ | ⟨z0, _ | ⟨z1, _ | ⟨z2, _ | ⟨z3, _ | ⟨z4, _ | ⟨z5, _ | ⟨z6, _ | ⟨z7, _ | ⟨z8, _ | ⟨z10, _ | ⟨zz, zr⟩⟩⟩⟩⟩⟩⟩⟩⟩⟩⟩
      rotate_right 1
      · simp at hvl
      · simp at hvl
      · simp at hvl
      · simp at hvl
      · simp at hvl
      · simp at hvl
      · simp at hvl
      · simp at hvl
      · simp at hvl
      · simp at hvl
      · simp at hvl
      · obtain rfl : z0 = (.pointer (some ⟨g, 0, none⟩)) := hvp 0 (by omega)
        obtain rfl : z1 = (.pointer (some ⟨g, 0, none⟩)) := hvp 1 (by omega)
        obtain rfl : z2 = (.pointer (some ⟨g, 8, none⟩)) := hvp 2 (by omega)
        obtain rfl : z3 = (.slice Ad p.done.length cd) := hvp 3 (by omega)
        obtain rfl : z4 = (.pointer (some ⟨w.heap.size, 4, none⟩)) := hvp 4 (by omega)
        obtain rfl : z5 = (tryV c.by_) := hvp 5 (by omega)
        obtain rfl : z6 = (.tuple #[outV o, .bool is]) := hvp 6 (by omega)
        obtain rfl : z7 = (.tuple #[outV o, .bool is]) := hvp 7 (by omega)
        obtain rfl : z8 = (outV o) := hvp 8 (by omega)
        have hxo : (⟨fun v w => ∃ gl, v = .pointer (some ⟨gl, 0, none⟩) ∧ w1.heap.size ≤ gl ∧ Row w gl 93 (outCs Out.zero), fun _ _ _ ⟨gl, h1, h2, h3⟩ k => ⟨gl, h1, h2, h3.keep k trivial⟩⟩ : SP).p z10 wR := hvp 9 (by omega)
        clear hvl hvp
        simp only [putAll, Act.put, List.setIfInBounds_toArray, List.set_cons_succ, List.set_cons_zero, List.take_succ_cons, List.take_zero, List.drop_succ_cons, List.drop_zero, List.eraseIdx_cons_succ, List.eraseIdx_cons_zero]
        obtain ⟨gl, rfl, hgl2, hrl⟩ := hxo
        have zl := hrl.lt
        have RL := Lib.hid hrl
        have l0 := hrl.cell 0
        have l1 := hrl.cell 1
        have l2 := hrl.cell 2
        have l3 := hrl.cell 3
        have l4 := hrl.cell 4
        have l5 := hrl.cell 5
        have l6 := hrl.cell 6
        simp only [outCs, Out.zero, List.getElem?_cons_zero, List.getElem?_cons_succ] at l0 l1 l2 l3 l4 l5 l6
        have h0 := hrl.frozen 0
        have h1 := hrl.frozen 1
        have h2 := hrl.frozen 2
        have h3 := hrl.frozen 3
        have h4 := hrl.frozen 4
        have h5 := hrl.frozen 5
        have h6 := hrl.frozen 6
        clear hrl
        go_wp2
        go_meet
        exact ⟨rfl, gl, rfl, RL.out.sets (outCs o) 0, Same.sets' (by omega) (outCs o) 0 hsR⟩
  case rest =>
    obtain ⟨rfl, gl, rfl, hrl, hSc⟩ := hcut
    have HSw := Lib.hid (HSw.out.trans hSc)
    have R1 := Lib.hid (R1.out.keep hSc trivial)
    have HP := Lib.hid (HP.out.keep hSc trivial)
    have R0 := Lib.hid (R0.out.keep hSc trivial)
    clear p0 p1 p2 p3 p4 p5 p6 p7 p8 c0 c1 c2 c3 c4 c5 c6 c7 c8 c9 c10 c11 c12 c13 e0 f0 e1 f1 e2 f2 e3 f3 e4 f4 e5 f5 e6 f6 e7 f7 e8 f8 e9 f9 e10 f10 zp z1
    clear gf
    have hp := HP.out.keep (Same.refl (fun _ => True) wc) trivial
    have r0 := R0.out.keep (Same.refl (fun _ => True) wc) trivial
    have r1 := R1.out.keep (Same.refl (fun _ => True) wc) trivial
    have p0 := hp.cell 0
    have p1 := hp.cell 1
    have p2 := hp.cell 2
    have p3 := hp.cell 3
    have p4 := hp.cell 4
    have p5 := hp.cell 5
    have p6 := hp.cell 6
    have p7 := hp.cell 7
    have p8 := hp.cell 8
    simp only [List.getElem?_cons_zero, List.getElem?_cons_succ] at p0 p1 p2 p3 p4 p5 p6 p7 p8
    have c0 := r0.cell 0
    have c1 := r0.cell 1
    have c2 := r0.cell 2
    have c3 := r0.cell 3
    have c4 := r0.cell 4
    have c5 := r0.cell 5
    have c6 := r0.cell 6
    have c7 := r0.cell 7
    have c8 := r0.cell 8
    have c9 := r0.cell 9
    have c10 := r0.cell 10
    have c11 := r0.cell 11
    have c12 := r0.cell 12
    have c13 := r0.cell 13
    simp only [List.getElem?_cons_zero, List.getElem?_cons_succ] at c0 c1 c2 c3 c4 c5 c6 c7 c8 c9 c10 c11 c12 c13
    have e0 := r1.cell 0
    have e1 := r1.cell 1
    have e2 := r1.cell 2
    have e3 := r1.cell 3
    have e4 := r1.cell 4
    have e5 := r1.cell 5
    have e6 := r1.cell 6
    have e7 := r1.cell 7
    have e8 := r1.cell 8
    have e9 := r1.cell 9
    have e10 := r1.cell 10
    simp only [List.getElem?_cons_zero, List.getElem?_cons_succ] at e0 e1 e2 e3 e4 e5 e6 e7 e8 e9 e10
    have f0 := r1.frozen 0
    have f1 := r1.frozen 1
    have f2 := r1.frozen 2
    have f3 := r1.frozen 3
    have f4 := r1.frozen 4
    have f5 := r1.frozen 5
    have f6 := r1.frozen 6
    have f7 := r1.frozen 7
    have f8 := r1.frozen 8
    have f9 := r1.frozen 9
    have f10 := r1.frozen 10
    have zp := hp.lt
    have z1 := r1.lt
    clear hp r0 r1
    cases is
    case true =>
      have HL := Lib.hid (show prepareF p c = (p, { ReplyM.zero with err := 26, yes := o.yes }) by
        unfold prepareF
        rw [← Hfo.out]
        rfl)
      have l0 := hrl.cell 0
      have l1 := hrl.cell 1
      have l2 := hrl.cell 2
      have l3 := hrl.cell 3
      have l4 := hrl.cell 4
      have l5 := hrl.cell 5
      have l6 := hrl.cell 6
      simp only [outCs, List.getElem?_cons_zero, List.getElem?_cons_succ] at l0 l1 l2 l3 l4 l5 l6
      have zl := hrl.lt
      clear hrl hSc
      go_wp2
      have hS9 := Same.sets' (S := Sd g vr (.slice Ad p.done.length cd)) (w := w) (g := w.heap.size + 1) (by omega) (repCs nilV ({ ReplyM.zero with err := 26, yes := o.yes })) 0 (HSw.out.mono fun _ _ _ => trivial)
      have hq9 := Same.sets (S := fun q => q ≠ w.heap.size + 1) (g := w.heap.size + 1) (fun h => h rfl) (repCs nilV ({ ReplyM.zero with err := 26, yes := o.yes })) 0 (Same.refl _ wc)
      rw [HL.out]
      exact bodyPost_ret (prepare_results (r := { ReplyM.zero with err := 26, yes := o.yes }) (vp := nilV) (show Row _ _ _ (repCs nilV ({ ReplyM.zero with err := 26, yes := o.yes })) from R1.out.sets (repCs nilV ({ ReplyM.zero with err := 26, yes := o.yes })) 0) rfl) rfl ⟨_, _, _, _, rfl, HP.out.keep hq9 (by omega), ((Ho.out.keepAll HSw.out).keepRep R1.out hq9), OwnR.nil _ _, hS9⟩
    have HNO := Lib.hid (show (findO p.done c.by_).2 = false by rw [← Hfo.out])
    clear hrl hSc
    have gm := fun W (hW : Same (fun _ => True) wc W) => mvmine_any (.slice Ac p.cells.length cc) p.cells c.by_ _ W ((Ho.out.cells.reads.keepAll HSw.out).keepAll hW) (by omega)
    obtain ⟨mi, hmi⟩ : ∃ r, r = mineF p.cells c.by_ := ⟨_, rfl⟩
    rw [← hmi] at gm
    have Hmi := Lib.hid hmi
    clear hmi
    go_wp2
    refine wp_region_eq_lit (vs := [(.pointer (some ⟨g, 0, none⟩)), (.pointer (some ⟨g, 0, none⟩)), (.pointer (some ⟨g, 6, none⟩)), (.slice Ac p.cells.length cc), (.pointer (some ⟨w.heap.size, 4, none⟩)), (tryV c.by_), (.bool mi), (.bool mi)]) (by kernel_rfl) (by kernel_rfl) rfl rfl ?_ ?_
    · refine ⟨?_, ?_, ?_, ?_, ?_, ?_, ?_, ?_, trivial⟩
      · intro ac wc hs hd hz hf hw K hK
        have e0 : ac.eval (.tmp 0) = (.pointer (some ⟨g, 0, none⟩)) := hf 0 rfl
        clear hd hz hf hw
        simp only [Region.wanted, if_true, Oper.wp, execOp, resolve, List.map_toArray, List.map_cons, List.map_nil, Option.map_some, Option.map_none, e0]
        go_simp
        exact hK _ _ rfl (Same.refl _ _)
      · intro ac wc hs hd hz hf hw K hK
        have e0 : ac.eval (.tmp 28) = (.pointer (some ⟨g, 0, none⟩)) := hw 0 rfl
        clear hd hz hf hw
        simp only [Region.wanted, if_true, Oper.wp, execOp, resolve, List.map_toArray, List.map_cons, List.map_nil, Option.map_some, Option.map_none, e0]
        go_simp
        exact hK _ _ rfl (Same.refl _ _)
      · intro ac wc hs hd hz hf hw K hK
        have e0 : ac.eval (.tmp 29) = (.pointer (some ⟨g, 0, none⟩)) := hw 1 rfl
        clear hd hz hf hw
        simp only [Region.wanted, if_true, Oper.wp, execOp, resolve, List.map_toArray, List.map_cons, List.map_nil, Option.map_some, Option.map_none, e0]
        go_simp
        exact hK _ _ rfl (Same.refl _ _)
      · intro ac wc hs hd hz hf hw K hK
        have e0 : ac.eval (.tmp 30) = (.pointer (some ⟨g, 6, none⟩)) := hw 2 rfl
        have m0 : wc.cell? ⟨g, 6, none⟩ = some (.slice Ac p.cells.length cc) := hs.cell (p := ⟨g, 6, none⟩) trivial p6
        clear hd hz hf hw
        simp only [Region.wanted, if_true, Oper.wp, execOp, resolve, List.map_toArray, List.map_cons, List.map_nil, Option.map_some, Option.map_none, e0]
        go_simp
        exact hK _ _ rfl (Same.refl _ _)
      · intro ac wc hs hd hz hf hw K hK
        have e0 : ac.eval (.tmp 3) = (.pointer (some ⟨w.heap.size, 0, none⟩)) := hf 3 rfl
        clear hd hz hf hw
        simp only [Region.wanted, if_true, Oper.wp, execOp, resolve, List.map_toArray, List.map_cons, List.map_nil, Option.map_some, Option.map_none, e0]
        go_simp
        exact hK _ _ rfl (Same.refl _ _)
      · intro ac wc hs hd hz hf hw K hK
        have e0 : ac.eval (.tmp 32) = (.pointer (some ⟨w.heap.size, 4, none⟩)) := hw 4 rfl
        have m0 : wc.cell? ⟨w.heap.size, 4, none⟩ = some (.int .i64 c.by_.node) := hs.cell (p := ⟨w.heap.size, 4, none⟩) trivial c4
        have m1 : wc.cell? ⟨w.heap.size, 5, none⟩ = some (.int .i64 c.by_.life) := hs.cell (p := ⟨w.heap.size, 5, none⟩) trivial c5
        have m2 : wc.cell? ⟨w.heap.size, 6, none⟩ = some (.int .i64 c.by_.seq) := hs.cell (p := ⟨w.heap.size, 6, none⟩) trivial c6
        have m3 : wc.cell? ⟨w.heap.size, 7, none⟩ = some (.int .i64 c.by_.attempt) := hs.cell (p := ⟨w.heap.size, 7, none⟩) trivial c7
        clear hd hz hf hw
        simp only [Region.wanted, if_true, Oper.wp, execOp, resolve, List.map_toArray, List.map_cons, List.map_nil, Option.map_some, Option.map_none, e0]
        go_simp
        exact hK _ _ rfl (Same.refl _ _)
      · intro ac wc hs hd hz hf hw K hK
        have e0 : ac.eval (.tmp 31) = (.slice Ac p.cells.length cc) := hw 3 rfl
        have e1 : ac.eval (.tmp 33) = (tryV c.by_) := hw 5 rfl
        clear hd hz hf hw
        simp only [Region.wanted, if_true, Oper.wp, execOp, resolve, List.map_toArray, List.map_cons, List.map_nil, Option.map_some, Option.map_none, e0, e1]
        go_simp
        refine (gm wc hs).mono ?_
        rintro e wd ⟨rfl, hs2⟩
        exact hK _ _ rfl hs2
      · intro ac wc hs hd hz hf hw K hK
        have e0 : ac.eval (.tmp 34) = (.bool mi) := hw 6 rfl
        clear hd hz hf hw
        simp only [Region.wanted, if_true, Oper.wp, execOp, resolve, List.map_toArray, List.map_cons, List.map_nil, Option.map_some, Option.map_none, e0]
        go_simp
        exact hK _ _ rfl (Same.refl _ _)
    · intro wR hsR
      simp only [putAll, Act.put, List.setIfInBounds_toArray, List.set_cons_succ, List.set_cons_zero]
      have HSw := Lib.hid (HSw.out.trans hsR)
      have R1 := Lib.hid (R1.out.keep hsR trivial)
      have HP := Lib.hid (HP.out.keep hsR trivial)
      have R0 := Lib.hid (R0.out.keep hsR trivial)
      clear p0 p1 p2 p3 p4 p5 p6 p7 p8 c0 c1 c2 c3 c4 c5 c6 c7 c8 c9 c10 c11 c12 c13 e0 f0 e1 f1 e2 f2 e3 f3 e4 f4 e5 f5 e6 f6 e7 f7 e8 f8 e9 f9 e10 f10 zp z1
      clear hsR gm
      have hp := HP.out.keep (Same.refl (fun _ => True) wR) trivial
      have r0 := R0.out.keep (Same.refl (fun _ => True) wR) trivial
      have r1 := R1.out.keep (Same.refl (fun _ => True) wR) trivial
      have p0 := hp.cell 0
      have p1 := hp.cell 1
      have p2 := hp.cell 2
      have p3 := hp.cell 3
      have p4 := hp.cell 4
      have p5 := hp.cell 5
      have p6 := hp.cell 6
      have p7 := hp.cell 7
      have p8 := hp.cell 8
      simp only [List.getElem?_cons_zero, List.getElem?_cons_succ] at p0 p1 p2 p3 p4 p5 p6 p7 p8
      have c0 := r0.cell 0
      have c1 := r0.cell 1
      have c2 := r0.cell 2
      have c3 := r0.cell 3
      have c4 := r0.cell 4
      have c5 := r0.cell 5
      have c6 := r0.cell 6
      have c7 := r0.cell 7
      have c8 := r0.cell 8
      have c9 := r0.cell 9
      have c10 := r0.cell 10
      have c11 := r0.cell 11
      have c12 := r0.cell 12
      have c13 := r0.cell 13
      simp only [List.getElem?_cons_zero, List.getElem?_cons_succ] at c0 c1 c2 c3 c4 c5 c6 c7 c8 c9 c10 c11 c12 c13
      have e0 := r1.cell 0
      have e1 := r1.cell 1
      have e2 := r1.cell 2
      have e3 := r1.cell 3
      have e4 := r1.cell 4
      have e5 := r1.cell 5
      have e6 := r1.cell 6
      have e7 := r1.cell 7
      have e8 := r1.cell 8
      have e9 := r1.cell 9
      have e10 := r1.cell 10
      simp only [List.getElem?_cons_zero, List.getElem?_cons_succ] at e0 e1 e2 e3 e4 e5 e6 e7 e8 e9 e10
      have f0 := r1.frozen 0
      have f1 := r1.frozen 1
      have f2 := r1.frozen 2
      have f3 := r1.frozen 3
      have f4 := r1.frozen 4
      have f5 := r1.frozen 5
      have f6 := r1.frozen 6
      have f7 := r1.frozen 7
      have f8 := r1.frozen 8
      have f9 := r1.frozen 9
      have f10 := r1.frozen 10
      have zp := hp.lt
      have z1 := r1.lt
      clear hp r0 r1
      cases mi
      case true =>
        have HL := Lib.hid (show prepareF p c = (p, ReplyM.zero) by
          unfold prepareF
          rw [if_neg (by rw [HNO.out]; simp), if_pos Hmi.out.symm])
        go_wp2
        have hS9 := Same.sets' (S := Sd g vr (.slice Ad p.done.length cd)) (w := w) (g := w.heap.size + 1) (by omega) (repCs nilV (ReplyM.zero)) 0 (HSw.out.mono fun _ _ _ => trivial)
        have hq9 := Same.sets (S := fun q => q ≠ w.heap.size + 1) (g := w.heap.size + 1) (fun h => h rfl) (repCs nilV (ReplyM.zero)) 0 (Same.refl _ wR)
        rw [HL.out]
        exact bodyPost_ret (prepare_results (r := ReplyM.zero) (vp := nilV) (show Row _ _ _ (repCs nilV (ReplyM.zero)) from R1.out.sets (repCs nilV (ReplyM.zero)) 0) rfl) rfl ⟨_, _, _, _, rfl, HP.out.keep hq9 (by omega), ((Ho.out.keepAll HSw.out).keepRep R1.out hq9), OwnR.nil _ _, hS9⟩
      by_cases hcl2 : c.at_.wall ≤ p.closed
      · have d1 : decide (c.at_.wall ≤ p.closed) = true := by simpa using hcl2
        have HL := Lib.hid (show prepareF p c = (p, { ReplyM.zero with err := 21, wall := p.closed }) by
          unfold prepareF
          rw [if_neg (by rw [HNO.out]; simp), if_neg (by rw [← Hmi.out]; simp), if_pos hcl2])
        go_wp2
        go_quiet (fail)
        rename_i nq
        have hsq := (Same.refl (fun _ => True) wR).drewN nq
        have HSw := Lib.hid (HSw.out.trans hsq)
        have R1 := Lib.hid (R1.out.keep hsq trivial)
        have HP := Lib.hid (HP.out.keep hsq trivial)
        have R0 := Lib.hid (R0.out.keep hsq trivial)
        clear p0 p1 p2 p3 p4 p5 p6 p7 p8 c0 c1 c2 c3 c4 c5 c6 c7 c8 c9 c10 c11 c12 c13 e0 f0 e1 f1 e2 f2 e3 f3 e4 f4 e5 f5 e6 f6 e7 f7 e8 f8 e9 f9 e10 f10 zp z1
        clear hsq
        generalize wR.drewN nq = w4 at *
        have hp := HP.out.keep (Same.refl (fun _ => True) w4) trivial
        have r0 := R0.out.keep (Same.refl (fun _ => True) w4) trivial
        have r1 := R1.out.keep (Same.refl (fun _ => True) w4) trivial
        have p0 := hp.cell 0
        have p1 := hp.cell 1
        have p2 := hp.cell 2
        have p3 := hp.cell 3
        have p4 := hp.cell 4
        have p5 := hp.cell 5
        have p6 := hp.cell 6
        have p7 := hp.cell 7
        have p8 := hp.cell 8
        simp only [List.getElem?_cons_zero, List.getElem?_cons_succ] at p0 p1 p2 p3 p4 p5 p6 p7 p8
        have c0 := r0.cell 0
        have c1 := r0.cell 1
        have c2 := r0.cell 2
        have c3 := r0.cell 3
        have c4 := r0.cell 4
        have c5 := r0.cell 5
        have c6 := r0.cell 6
        have c7 := r0.cell 7
        have c8 := r0.cell 8
        have c9 := r0.cell 9
        have c10 := r0.cell 10
        have c11 := r0.cell 11
        have c12 := r0.cell 12
        have c13 := r0.cell 13
        simp only [List.getElem?_cons_zero, List.getElem?_cons_succ] at c0 c1 c2 c3 c4 c5 c6 c7 c8 c9 c10 c11 c12 c13
        have e0 := r1.cell 0
        have e1 := r1.cell 1
        have e2 := r1.cell 2
        have e3 := r1.cell 3
        have e4 := r1.cell 4
        have e5 := r1.cell 5
        have e6 := r1.cell 6
        have e7 := r1.cell 7
        have e8 := r1.cell 8
        have e9 := r1.cell 9
        have e10 := r1.cell 10
        simp only [List.getElem?_cons_zero, List.getElem?_cons_succ] at e0 e1 e2 e3 e4 e5 e6 e7 e8 e9 e10
        have f0 := r1.frozen 0
        have f1 := r1.frozen 1
        have f2 := r1.frozen 2
        have f3 := r1.frozen 3
        have f4 := r1.frozen 4
        have f5 := r1.frozen 5
        have f6 := r1.frozen 6
        have f7 := r1.frozen 7
        have f8 := r1.frozen 8
        have f9 := r1.frozen 9
        have f10 := r1.frozen 10
        have zp := hp.lt
        have z1 := r1.lt
        clear hp r0 r1
        go_wp2
        have hS9 := Same.sets' (S := Sd g vr (.slice Ad p.done.length cd)) (w := w) (g := w.heap.size + 1) (by omega) (repCs nilV ({ ReplyM.zero with err := 21, wall := p.closed })) 0 (HSw.out.mono fun _ _ _ => trivial)
        have hq9 := Same.sets (S := fun q => q ≠ w.heap.size + 1) (g := w.heap.size + 1) (fun h => h rfl) (repCs nilV ({ ReplyM.zero with err := 21, wall := p.closed })) 0 (Same.refl _ w4)
        rw [HL.out]
        exact bodyPost_ret (prepare_results (r := { ReplyM.zero with err := 21, wall := p.closed }) (vp := nilV) (show Row _ _ _ (repCs nilV ({ ReplyM.zero with err := 21, wall := p.closed })) from R1.out.sets (repCs nilV ({ ReplyM.zero with err := 21, wall := p.closed })) 0) rfl) rfl ⟨_, _, _, _, rfl, HP.out.keep hq9 (by omega), ((Ho.out.keepAll HSw.out).keepRep R1.out hq9), OwnR.nil _ _, hS9⟩
      have d1 : decide (c.at_.wall ≤ p.closed) = false := by simpa using hcl2
      have Hcl := Lib.hid (show p.closed < c.at_.wall by omega)
      clear hcl2
      go_wp2
      go_quiet (fail)
      rename_i nq
      have hsq := (Same.refl (fun _ => True) wR).drewN nq
      have HSw := Lib.hid (HSw.out.trans hsq)
      have R1 := Lib.hid (R1.out.keep hsq trivial)
      have HP := Lib.hid (HP.out.keep hsq trivial)
      have R0 := Lib.hid (R0.out.keep hsq trivial)
      clear p0 p1 p2 p3 p4 p5 p6 p7 p8 c0 c1 c2 c3 c4 c5 c6 c7 c8 c9 c10 c11 c12 c13 e0 f0 e1 f1 e2 f2 e3 f3 e4 f4 e5 f5 e6 f6 e7 f7 e8 f8 e9 f9 e10 f10 zp z1
      clear hsq
      generalize wR.drewN nq = w4 at *
      have hp := HP.out.keep (Same.refl (fun _ => True) w4) trivial
      have r0 := R0.out.keep (Same.refl (fun _ => True) w4) trivial
      have r1 := R1.out.keep (Same.refl (fun _ => True) w4) trivial
      have p0 := hp.cell 0
      have p1 := hp.cell 1
      have p2 := hp.cell 2
      have p3 := hp.cell 3
      have p4 := hp.cell 4
      have p5 := hp.cell 5
      have p6 := hp.cell 6
      have p7 := hp.cell 7
      have p8 := hp.cell 8
      simp only [List.getElem?_cons_zero, List.getElem?_cons_succ] at p0 p1 p2 p3 p4 p5 p6 p7 p8
      have c0 := r0.cell 0
      have c1 := r0.cell 1
      have c2 := r0.cell 2
      have c3 := r0.cell 3
      have c4 := r0.cell 4
      have c5 := r0.cell 5
      have c6 := r0.cell 6
      have c7 := r0.cell 7
      have c8 := r0.cell 8
      have c9 := r0.cell 9
      have c10 := r0.cell 10
      have c11 := r0.cell 11
      have c12 := r0.cell 12
      have c13 := r0.cell 13
      simp only [List.getElem?_cons_zero, List.getElem?_cons_succ] at c0 c1 c2 c3 c4 c5 c6 c7 c8 c9 c10 c11 c12 c13
      have e0 := r1.cell 0
      have e1 := r1.cell 1
      have e2 := r1.cell 2
      have e3 := r1.cell 3
      have e4 := r1.cell 4
      have e5 := r1.cell 5
      have e6 := r1.cell 6
      have e7 := r1.cell 7
      have e8 := r1.cell 8
      have e9 := r1.cell 9
      have e10 := r1.cell 10
      simp only [List.getElem?_cons_zero, List.getElem?_cons_succ] at e0 e1 e2 e3 e4 e5 e6 e7 e8 e9 e10
      have f0 := r1.frozen 0
      have f1 := r1.frozen 1
      have f2 := r1.frozen 2
      have f3 := r1.frozen 3
      have f4 := r1.frozen 4
      have f5 := r1.frozen 5
      have f6 := r1.frozen 6
      have f7 := r1.frozen 7
      have f8 := r1.frozen 8
      have f9 := r1.frozen 9
      have f10 := r1.frozen 10
      have zp := hp.lt
      have z1 := r1.lt
      clear hp r0 r1
      clear d1
      obtain ⟨ls, hls⟩ : ∃ r, r = lessB c.at_ p.floor := ⟨_, rfl⟩
      have gs := fun W => stless_any c.at_ p.floor W
      rw [← hls] at gs
      have Hls := Lib.hid hls
      clear hls
      go_wp2
      refine wp_region_eq_lit (vs := [(.pointer (some ⟨w.heap.size, 8, none⟩)), (stV c.at_), (.pointer (some ⟨g, 0, none⟩)), (.pointer (some ⟨g, 0, none⟩)), (.pointer (some ⟨g, 2, none⟩)), (stV p.floor), (.bool ls), (.bool ls)]) (by kernel_rfl) (by kernel_rfl) rfl rfl ?_ ?_
      · refine ⟨?_, ?_, ?_, ?_, ?_, ?_, ?_, ?_, trivial⟩
        · intro ac wc hs hd hz hf hw K hK
          have e0 : ac.eval (.tmp 3) = (.pointer (some ⟨w.heap.size, 0, none⟩)) := hf 3 rfl
          clear hd hz hf hw
          simp only [Region.wanted, if_true, Oper.wp, execOp, resolve, List.map_toArray, List.map_cons, List.map_nil, Option.map_some, Option.map_none, e0]
          go_simp
          exact hK _ _ rfl (Same.refl _ _)
        · intro ac wc hs hd hz hf hw K hK
          have e0 : ac.eval (.tmp 51) = (.pointer (some ⟨w.heap.size, 8, none⟩)) := hw 0 rfl
          have m0 : wc.cell? ⟨w.heap.size, 8, none⟩ = some (.int .i64 c.at_.wall) := hs.cell (p := ⟨w.heap.size, 8, none⟩) trivial c8
          have m1 : wc.cell? ⟨w.heap.size, 9, none⟩ = some (.int .i64 c.at_.tie) := hs.cell (p := ⟨w.heap.size, 9, none⟩) trivial c9
          clear hd hz hf hw
          simp only [Region.wanted, if_true, Oper.wp, execOp, resolve, List.map_toArray, List.map_cons, List.map_nil, Option.map_some, Option.map_none, e0]
          go_simp
          exact hK _ _ rfl (Same.refl _ _)
        · intro ac wc hs hd hz hf hw K hK
          have e0 : ac.eval (.tmp 0) = (.pointer (some ⟨g, 0, none⟩)) := hf 0 rfl
          clear hd hz hf hw
          simp only [Region.wanted, if_true, Oper.wp, execOp, resolve, List.map_toArray, List.map_cons, List.map_nil, Option.map_some, Option.map_none, e0]
          go_simp
          exact hK _ _ rfl (Same.refl _ _)
        · intro ac wc hs hd hz hf hw K hK
          have e0 : ac.eval (.tmp 53) = (.pointer (some ⟨g, 0, none⟩)) := hw 2 rfl
          clear hd hz hf hw
          simp only [Region.wanted, if_true, Oper.wp, execOp, resolve, List.map_toArray, List.map_cons, List.map_nil, Option.map_some, Option.map_none, e0]
          go_simp
          exact hK _ _ rfl (Same.refl _ _)
        · intro ac wc hs hd hz hf hw K hK
          have e0 : ac.eval (.tmp 54) = (.pointer (some ⟨g, 0, none⟩)) := hw 3 rfl
          clear hd hz hf hw
          simp only [Region.wanted, if_true, Oper.wp, execOp, resolve, List.map_toArray, List.map_cons, List.map_nil, Option.map_some, Option.map_none, e0]
          go_simp
          exact hK _ _ rfl (Same.refl _ _)
        · intro ac wc hs hd hz hf hw K hK
          have e0 : ac.eval (.tmp 55) = (.pointer (some ⟨g, 2, none⟩)) := hw 4 rfl
          have m0 : wc.cell? ⟨g, 2, none⟩ = some (.int .i64 p.floor.wall) := hs.cell (p := ⟨g, 2, none⟩) trivial p2
          have m1 : wc.cell? ⟨g, 3, none⟩ = some (.int .i64 p.floor.tie) := hs.cell (p := ⟨g, 3, none⟩) trivial p3
          clear hd hz hf hw
          simp only [Region.wanted, if_true, Oper.wp, execOp, resolve, List.map_toArray, List.map_cons, List.map_nil, Option.map_some, Option.map_none, e0]
          go_simp
          exact hK _ _ rfl (Same.refl _ _)
        · intro ac wc hs hd hz hf hw K hK
          have e0 : ac.eval (.tmp 52) = (stV c.at_) := hw 1 rfl
          have e1 : ac.eval (.tmp 56) = (stV p.floor) := hw 5 rfl
          clear hd hz hf hw
          simp only [Region.wanted, if_true, Oper.wp, execOp, resolve, List.map_toArray, List.map_cons, List.map_nil, Option.map_some, Option.map_none, e0, e1]
          go_simp
          refine (gs wc).mono ?_
          rintro e wd ⟨rfl, hs2⟩
          exact hK _ _ rfl hs2
        · intro ac wc hs hd hz hf hw K hK
          have e0 : ac.eval (.tmp 57) = (.bool ls) := hw 6 rfl
          clear hd hz hf hw
          simp only [Region.wanted, if_true, Oper.wp, execOp, resolve, List.map_toArray, List.map_cons, List.map_nil, Option.map_some, Option.map_none, e0]
          go_simp
          exact hK _ _ rfl (Same.refl _ _)
      · intro w5 hsR
        simp only [putAll, Act.put, List.setIfInBounds_toArray, List.set_cons_succ, List.set_cons_zero]
        have HSw := Lib.hid (HSw.out.trans hsR)
        have R1 := Lib.hid (R1.out.keep hsR trivial)
        have HP := Lib.hid (HP.out.keep hsR trivial)
        have R0 := Lib.hid (R0.out.keep hsR trivial)
        clear p0 p1 p2 p3 p4 p5 p6 p7 p8 c0 c1 c2 c3 c4 c5 c6 c7 c8 c9 c10 c11 c12 c13 e0 f0 e1 f1 e2 f2 e3 f3 e4 f4 e5 f5 e6 f6 e7 f7 e8 f8 e9 f9 e10 f10 zp z1
        clear hsR gs
        have hp := HP.out.keep (Same.refl (fun _ => True) w5) trivial
        have r0 := R0.out.keep (Same.refl (fun _ => True) w5) trivial
        have r1 := R1.out.keep (Same.refl (fun _ => True) w5) trivial
        have p0 := hp.cell 0
        have p1 := hp.cell 1
        have p2 := hp.cell 2
        have p3 := hp.cell 3
        have p4 := hp.cell 4
        have p5 := hp.cell 5
        have p6 := hp.cell 6
        have p7 := hp.cell 7
        have p8 := hp.cell 8
        simp only [List.getElem?_cons_zero, List.getElem?_cons_succ] at p0 p1 p2 p3 p4 p5 p6 p7 p8
        have c0 := r0.cell 0
        have c1 := r0.cell 1
        have c2 := r0.cell 2
        have c3 := r0.cell 3
        have c4 := r0.cell 4
        have c5 := r0.cell 5
        have c6 := r0.cell 6
        have c7 := r0.cell 7
        have c8 := r0.cell 8
        have c9 := r0.cell 9
        have c10 := r0.cell 10
        have c11 := r0.cell 11
        have c12 := r0.cell 12
        have c13 := r0.cell 13
        simp only [List.getElem?_cons_zero, List.getElem?_cons_succ] at c0 c1 c2 c3 c4 c5 c6 c7 c8 c9 c10 c11 c12 c13
        have e0 := r1.cell 0
        have e1 := r1.cell 1
        have e2 := r1.cell 2
        have e3 := r1.cell 3
        have e4 := r1.cell 4
        have e5 := r1.cell 5
        have e6 := r1.cell 6
        have e7 := r1.cell 7
        have e8 := r1.cell 8
        have e9 := r1.cell 9
        have e10 := r1.cell 10
        simp only [List.getElem?_cons_zero, List.getElem?_cons_succ] at e0 e1 e2 e3 e4 e5 e6 e7 e8 e9 e10
        have f0 := r1.frozen 0
        have f1 := r1.frozen 1
        have f2 := r1.frozen 2
        have f3 := r1.frozen 3
        have f4 := r1.frozen 4
        have f5 := r1.frozen 5
        have f6 := r1.frozen 6
        have f7 := r1.frozen 7
        have f8 := r1.frozen 8
        have f9 := r1.frozen 9
        have f10 := r1.frozen 10
        have zp := hp.lt
        have z1 := r1.lt
        clear hp r0 r1
        cases ls
        case true =>
          have HL := Lib.hid (show prepareF p c = (p, { ReplyM.zero with err := 22, at_ := p.floor }) by
            unfold prepareF
            rw [if_neg (by rw [HNO.out]; simp), if_neg (by rw [← Hmi.out]; simp), if_neg (by have := Hcl.out; omega), if_pos Hls.out.symm])
          go_wp2
          have hS9 := Same.sets' (S := Sd g vr (.slice Ad p.done.length cd)) (w := w) (g := w.heap.size + 1) (by omega) (repCs nilV ({ ReplyM.zero with err := 22, at_ := p.floor })) 0 (HSw.out.mono fun _ _ _ => trivial)
          have hq9 := Same.sets (S := fun q => q ≠ w.heap.size + 1) (g := w.heap.size + 1) (fun h => h rfl) (repCs nilV ({ ReplyM.zero with err := 22, at_ := p.floor })) 0 (Same.refl _ w5)
          rw [HL.out]
          exact bodyPost_ret (prepare_results (r := { ReplyM.zero with err := 22, at_ := p.floor }) (vp := nilV) (show Row _ _ _ (repCs nilV ({ ReplyM.zero with err := 22, at_ := p.floor })) from R1.out.sets (repCs nilV ({ ReplyM.zero with err := 22, at_ := p.floor })) 0) rfl) rfl ⟨_, _, _, _, rfl, HP.out.keep hq9 (by omega), ((Ho.out.keepAll HSw.out).keepRep R1.out hq9), OwnR.nil _ _, hS9⟩
        go_wp2
        clear p0 p1 p2 p3 p4 p5 p6 p7 p8 c0 c1 c2 c3 c4 c5 c6 c7 c8 c9 c10 c11 c12 c13 e0 f0 e1 f1 e2 f2 e3 f3 e4 f4 e5 f5 e6 f6 e7 f7 e8 f8 e9 f9 e10 f10 zp z1
        go_loopw [8, 9, 10, 66] (fun _ _ _ i wr => ∃ k : Nat, i = .int .i64 k ∧ k ≤ c.writes.length ∧ heldFirst p.cells (c.writes.drop k) = heldFirst p.cells c.writes ∧ Same (fun _ => True) w5 wr) (fun _ _ _ i _ => c.writes.length - (intOf i).toNat)
        case atStart => exact ⟨0, rfl, Nat.zero_le _, rfl, Same.refl _ _⟩
        case round =>
          obtain ⟨k, rfl, hk, hbl, hS3⟩ := hrel
          obtain ⟨wo, rfl⟩ : ∃ wo : World, wo = wr := ⟨_, rfl⟩
          have HSw := Lib.hid (HSw.out.trans hS3)
          have Hbl := Lib.hid hbl
          have R1 := Lib.hid (R1.out.keep hS3 trivial)
          have HP := Lib.hid (HP.out.keep hS3 trivial)
          have R0 := Lib.hid (R0.out.keep hS3 trivial)
          have HS3 := Lib.hid hS3
          clear hS3 hbl
          have hp := HP.out.keep (Same.refl (fun _ => True) wo) trivial
          have r0 := R0.out.keep (Same.refl (fun _ => True) wo) trivial
          have r1 := R1.out.keep (Same.refl (fun _ => True) wo) trivial
          have p0 := hp.cell 0
          have p1 := hp.cell 1
          have p2 := hp.cell 2
          have p3 := hp.cell 3
          have p4 := hp.cell 4
          have p5 := hp.cell 5
          have p6 := hp.cell 6
          have p7 := hp.cell 7
          have p8 := hp.cell 8
          simp only [List.getElem?_cons_zero, List.getElem?_cons_succ] at p0 p1 p2 p3 p4 p5 p6 p7 p8
          have c0 := r0.cell 0
          have c1 := r0.cell 1
          have c2 := r0.cell 2
          have c3 := r0.cell 3
          have c4 := r0.cell 4
          have c5 := r0.cell 5
          have c6 := r0.cell 6
          have c7 := r0.cell 7
          have c8 := r0.cell 8
          have c9 := r0.cell 9
          have c10 := r0.cell 10
          have c11 := r0.cell 11
          have c12 := r0.cell 12
          have c13 := r0.cell 13
          simp only [List.getElem?_cons_zero, List.getElem?_cons_succ] at c0 c1 c2 c3 c4 c5 c6 c7 c8 c9 c10 c11 c12 c13
          have e0 := r1.cell 0
          have e1 := r1.cell 1
          have e2 := r1.cell 2
          have e3 := r1.cell 3
          have e4 := r1.cell 4
          have e5 := r1.cell 5
          have e6 := r1.cell 6
          have e7 := r1.cell 7
          have e8 := r1.cell 8
          have e9 := r1.cell 9
          have e10 := r1.cell 10
          simp only [List.getElem?_cons_zero, List.getElem?_cons_succ] at e0 e1 e2 e3 e4 e5 e6 e7 e8 e9 e10
          have f0 := r1.frozen 0
          have f1 := r1.frozen 1
          have f2 := r1.frozen 2
          have f3 := r1.frozen 3
          have f4 := r1.frozen 4
          have f5 := r1.frozen 5
          have f6 := r1.frozen 6
          have f7 := r1.frozen 7
          have f8 := r1.frozen 8
          have f9 := r1.frozen 9
          have f10 := r1.frozen 10
          have zp := hp.lt
          have z1 := r1.lt
          clear hp r0 r1
          by_cases hlt : k < c.writes.length
          · obtain ⟨ad, rfl, -, s0_, s1_, s2_⟩ := WrR.cells (RowR.keepAll Hsp.out HSw.out) hlt
            have x1 : (0 : Int) ≤ (k : Int) := by omega
            have x2 : (k : Int) < (c.writes.length : Int) := by omega
            have hab := World.block_lt_of_cell? wo _ s0_
            have hst := held_step (cs := p.cells) hlt
            have gb := fun W (hW : Same (fun _ => True) wo W) => mvheld_any (.slice Ac p.cells.length cc) p.cells c.writes[k].key _ W ((Ho.out.cells.reads.keepAll HSw.out).keepAll hW) Hf.out.good.sorted (by omega)
            obtain ⟨⟨l, is⟩, hlk⟩ : ∃ r, r = heldF p.cells c.writes[k].key := ⟨_, rfl⟩
            rw [← hlk] at gb hst
            have Hst := Lib.hid hst
            clear hlk hst
            generalize c.writes[k] = x at *
            go_wp2
            have q_ := Row.new wo 24 (wrCs x)
            have hSa := (Same.refl (fun _ => True) wo).alloc (.cells (wrCs x).toArray 24)
            simp only [wrCs] at q_ hSa
            clear hab s0_ s1_ s2_
            clear p0 p1 p2 p3 p4 p5 p6 p7 p8 c0 c1 c2 c3 c4 c5 c6 c7 c8 c9 c10 c11 c12 c13 e0 f0 e1 f1 e2 f2 e3 f3 e4 f4 e5 f5 e6 f6 e7 f7 e8 f8 e9 f9 e10 f10 zp z1
            revert q_ hSa
            generalize wo.alloc (.cells _ 24) = wb
            intro q_ hSa
            have HSa := Lib.hid hSa
            have gb := fun W (hW : Same (fun _ => True) wb W) => gb W (hSa.trans hW)
            clear hSa
            have hp := HP.out.keep HSa.out trivial
            have r0 := R0.out.keep HSa.out trivial
            have r1 := R1.out.keep HSa.out trivial
            have p0 := hp.cell 0
            have p1 := hp.cell 1
            have p2 := hp.cell 2
            have p3 := hp.cell 3
            have p4 := hp.cell 4
            have p5 := hp.cell 5
            have p6 := hp.cell 6
            have p7 := hp.cell 7
            have p8 := hp.cell 8
            simp only [List.getElem?_cons_zero, List.getElem?_cons_succ] at p0 p1 p2 p3 p4 p5 p6 p7 p8
            have c0 := r0.cell 0
            have c1 := r0.cell 1
            have c2 := r0.cell 2
            have c3 := r0.cell 3
            have c4 := r0.cell 4
            have c5 := r0.cell 5
            have c6 := r0.cell 6
            have c7 := r0.cell 7
            have c8 := r0.cell 8
            have c9 := r0.cell 9
            have c10 := r0.cell 10
            have c11 := r0.cell 11
            have c12 := r0.cell 12
            have c13 := r0.cell 13
            simp only [List.getElem?_cons_zero, List.getElem?_cons_succ] at c0 c1 c2 c3 c4 c5 c6 c7 c8 c9 c10 c11 c12 c13
            have e0 := r1.cell 0
            have e1 := r1.cell 1
            have e2 := r1.cell 2
            have e3 := r1.cell 3
            have e4 := r1.cell 4
            have e5 := r1.cell 5
            have e6 := r1.cell 6
            have e7 := r1.cell 7
            have e8 := r1.cell 8
            have e9 := r1.cell 9
            have e10 := r1.cell 10
            simp only [List.getElem?_cons_zero, List.getElem?_cons_succ] at e0 e1 e2 e3 e4 e5 e6 e7 e8 e9 e10
            have f0 := r1.frozen 0
            have f1 := r1.frozen 1
            have f2 := r1.frozen 2
            have f3 := r1.frozen 3
            have f4 := r1.frozen 4
            have f5 := r1.frozen 5
            have f6 := r1.frozen 6
            have f7 := r1.frozen 7
            have f8 := r1.frozen 8
            have f9 := r1.frozen 9
            have f10 := r1.frozen 10
            have zp := hp.lt
            have z1 := r1.lt
            clear hp r0 r1
            have q0 := q_.cell 0
            simp only [List.getElem?_cons_zero, List.getElem?_cons_succ] at q0
            have zq := q_.lt
            clear q_
            go_cut [9, 10, 66] from 66 to 83 (fun v7 v8 i30 wx => i30 = .int .i64 k ∧ v8 = .bool is ∧ ∃ gl, v7 = .pointer (some ⟨gl, 0, none⟩) ∧ Row wx gl 30 (lckCs l) ∧ Same (fun _ => True) wb wx)
            case first =>
              refine wp_region_tail_d (L := [.eq (.pointer (some ⟨g, 0, none⟩)), .eq (.pointer (some ⟨g, 0, none⟩)), .eq (.pointer (some ⟨g, 6, none⟩)), .eq (.slice Ac p.cells.length cc), .eq (.pointer (some ⟨wo.heap.size, 0, none⟩)), .eq (.string (str x.key)), .eq (.tuple #[lckV l, .bool is]), .eq (.tuple #[lckV l, .bool is]), .eq (lckV l), .eq (.bool is), .of ⟨fun v w => ∃ gl, v = .pointer (some ⟨gl, 0, none⟩) ∧ wb.heap.size ≤ gl ∧ Row w gl 30 (lckCs Lck.zero), fun _ _ _ ⟨gl, h1, h2, h3⟩ k => ⟨gl, h1, h2, h3.keep k trivial⟩⟩]) 11 9 (by omega) (by kernel_rfl) (by kernel_rfl) rfl rfl rfl rfl rfl rfl ?_ ?_ ?_
              · refine ⟨?_, ?_, ?_, ?_, ?_, ?_, ?_, ?_, ?_, ?_, ?_, trivial⟩
                · intro ac wc hs hd hz hf hw K hK
                  have e0 : ac.eval (.tmp 0) = (.pointer (some ⟨g, 0, none⟩)) := hf 0 rfl
                  clear hd hz hf hw
                  simp only [Region.wanted, if_true, Oper.wp, execOp, resolve, List.map_toArray, List.map_cons, List.map_nil, Option.map_some, Option.map_none, e0]
                  go_simp
                  exact hK _ _ rfl (Same.refl _ _)
                · intro ac wc hs hd hz hf hw K hK
                  have e0 : ac.eval (.tmp 71) = (.pointer (some ⟨g, 0, none⟩)) := hw 0 rfl
                  clear hd hz hf hw
                  simp only [Region.wanted, if_true, Oper.wp, execOp, resolve, List.map_toArray, List.map_cons, List.map_nil, Option.map_some, Option.map_none, e0]
                  go_simp
                  exact hK _ _ rfl (Same.refl _ _)
                · intro ac wc hs hd hz hf hw K hK
                  have e0 : ac.eval (.tmp 72) = (.pointer (some ⟨g, 0, none⟩)) := hw 1 rfl
                  clear hd hz hf hw
                  simp only [Region.wanted, if_true, Oper.wp, execOp, resolve, List.map_toArray, List.map_cons, List.map_nil, Option.map_some, Option.map_none, e0]
                  go_simp
                  exact hK _ _ rfl (Same.refl _ _)
                · intro ac wc hs hd hz hf hw K hK
                  have e0 : ac.eval (.tmp 73) = (.pointer (some ⟨g, 6, none⟩)) := hw 2 rfl
                  have m0 : wc.cell? ⟨g, 6, none⟩ = some (.slice Ac p.cells.length cc) := hs.cell (p := ⟨g, 6, none⟩) trivial p6
                  clear hd hz hf hw
                  simp only [Region.wanted, if_true, Oper.wp, execOp, resolve, List.map_toArray, List.map_cons, List.map_nil, Option.map_some, Option.map_none, e0]
                  go_simp
                  exact hK _ _ rfl (Same.refl _ _)
                · intro ac wc hs hd hz hf hw K hK
                  have e0 : ac.eval (.tmp 8) = (.pointer (some ⟨wo.heap.size, 0, none⟩)) := hf 8 rfl
                  clear hd hz hf hw
                  simp only [Region.wanted, if_true, Oper.wp, execOp, resolve, List.map_toArray, List.map_cons, List.map_nil, Option.map_some, Option.map_none, e0]
                  go_simp
                  exact hK _ _ rfl (Same.refl _ _)
                · intro ac wc hs hd hz hf hw K hK
                  have e0 : ac.eval (.tmp 75) = (.pointer (some ⟨wo.heap.size, 0, none⟩)) := hw 4 rfl
                  have m0 : wc.cell? ⟨wo.heap.size, 0, none⟩ = some (.string (str x.key)) := hs.cell (p := ⟨wo.heap.size, 0, none⟩) trivial q0
                  clear hd hz hf hw
                  simp only [Region.wanted, if_true, Oper.wp, execOp, resolve, List.map_toArray, List.map_cons, List.map_nil, Option.map_some, Option.map_none, e0]
                  go_simp
                  exact hK _ _ rfl (Same.refl _ _)
                · intro ac wc hs hd hz hf hw K hK
                  have e0 : ac.eval (.tmp 74) = (.slice Ac p.cells.length cc) := hw 3 rfl
                  have e1 : ac.eval (.tmp 76) = (.string (str x.key)) := hw 5 rfl
                  clear hd hz hf hw
                  simp only [Region.wanted, if_true, Oper.wp, execOp, resolve, List.map_toArray, List.map_cons, List.map_nil, Option.map_some, Option.map_none, e0, e1]
                  go_simp
                  refine (gb wc hs).mono ?_
                  rintro e wd ⟨rfl, hs2⟩
                  exact hK _ _ rfl hs2
                · intro ac wc hs hd hz hf hw K hK
                  have e0 : ac.eval (.tmp 77) = (.tuple #[lckV l, .bool is]) := hw 6 rfl
                  clear hd hz hf hw
                  simp only [Region.wanted, if_true, Oper.wp, execOp, resolve, List.map_toArray, List.map_cons, List.map_nil, Option.map_some, Option.map_none, e0]
                  go_simp
                  exact hK _ _ rfl (Same.refl _ _)
                · intro ac wc hs hd hz hf hw K hK
                  have e0 : ac.eval (.tmp 70) = (.tuple #[lckV l, .bool is]) := hw 7 rfl
                  clear hd hz hf hw
                  simp only [Region.wanted, if_true, Oper.wp, execOp, resolve, List.map_toArray, List.map_cons, List.map_nil, Option.map_some, Option.map_none, e0]
                  go_simp
                  exact hK _ _ rfl (Same.refl _ _)
                · intro ac wc hs hd hz hf hw K hK
                  have e0 : ac.eval (.tmp 70) = (.tuple #[lckV l, .bool is]) := hw 7 rfl
                  clear hd hz hf hw
                  simp only [Region.wanted, if_true, Oper.wp, execOp, resolve, List.map_toArray, List.map_cons, List.map_nil, Option.map_some, Option.map_none, e0]
                  go_simp
                  exact hK _ _ rfl (Same.refl _ _)
                · intro ac wc hs hd hz hf hw K hK
                  clear hd hz hf hw
                  simp only [Region.wanted, if_true, Oper.wp, execOp, resolve, List.map_toArray, List.map_cons, List.map_nil, Option.map_some, Option.map_none]
                  go_simp
                  exact hK _ _ ⟨_, rfl, hs.size, Row.new _ _ (lckCs Lck.zero)⟩ ((Same.refl _ _).alloc _)
              · intro vs wR hvl hvp hsR
                rcases vs with _ | ⟨z0, _ | ⟨z1, _ | ⟨z2, _ | ⟨z3, _ | ⟨z4, _ | ⟨z5, _ | ⟨z6, _ | ⟨z7, _ | ⟨z8, _ | ⟨z9, _ | ⟨z10, _ | ⟨zz, zr⟩⟩⟩⟩⟩⟩⟩⟩⟩⟩⟩⟩
                rotate_right 1
                · simp at hvl
                · simp at hvl
                · simp at hvl
                · simp at hvl
                · simp at hvl
                · simp at hvl
                · simp at hvl
                · simp at hvl
                · simp at hvl
                · simp at hvl
                · simp at hvl
                · simp at hvl
                · obtain rfl : z0 = (.pointer (some ⟨g, 0, none⟩)) := hvp 0 (by omega)
                  obtain rfl : z1 = (.pointer (some ⟨g, 0, none⟩)) := hvp 1 (by omega)
                  obtain rfl : z2 = (.pointer (some ⟨g, 6, none⟩)) := hvp 2 (by omega)
                  obtain rfl : z3 = (.slice Ac p.cells.length cc) := hvp 3 (by omega)
                  obtain rfl : z4 = (.pointer (some ⟨wo.heap.size, 0, none⟩)) := hvp 4 (by omega)
                  obtain rfl : z5 = (.string (str x.key)) := hvp 5 (by omega)
                  obtain rfl : z6 = (.tuple #[lckV l, .bool is]) := hvp 6 (by omega)
                  obtain rfl : z7 = (.tuple #[lckV l, .bool is]) := hvp 7 (by omega)
                  obtain rfl : z8 = (lckV l) := hvp 8 (by omega)
                  obtain rfl : z9 = (.bool is) := hvp 9 (by omega)
                  have hxl : (⟨fun v w => ∃ gl, v = .pointer (some ⟨gl, 0, none⟩) ∧ wb.heap.size ≤ gl ∧ Row w gl 30 (lckCs Lck.zero), fun _ _ _ ⟨gl, h1, h2, h3⟩ k => ⟨gl, h1, h2, h3.keep k trivial⟩⟩ : SP).p z10 wR := hvp 10 (by omega)
                  clear hvl hvp
                  simp only [putAll, Act.put, List.setIfInBounds_toArray, List.set_cons_succ, List.set_cons_zero, List.take_succ_cons, List.take_zero, List.drop_succ_cons, List.drop_zero, List.eraseIdx_cons_succ, List.eraseIdx_cons_zero]
                  obtain ⟨gl, rfl, hgl2, hrl⟩ := hxl
                  have zl := hrl.lt
                  have RL := Lib.hid hrl
                  have l0 := hrl.cell 0
                  have l1 := hrl.cell 1
                  have l2 := hrl.cell 2
                  have l3 := hrl.cell 3
                  have l4 := hrl.cell 4
                  have l5 := hrl.cell 5
                  have l6 := hrl.cell 6
                  have l7 := hrl.cell 7
                  have l8 := hrl.cell 8
                  simp only [lckCs, Lck.zero, List.getElem?_cons_zero, List.getElem?_cons_succ] at l0 l1 l2 l3 l4 l5 l6 l7 l8
                  have h0 := hrl.frozen 0
                  have h1 := hrl.frozen 1
                  have h2 := hrl.frozen 2
                  have h3 := hrl.frozen 3
                  have h4 := hrl.frozen 4
                  have h5 := hrl.frozen 5
                  have h6 := hrl.frozen 6
                  have h7 := hrl.frozen 7
                  have h8 := hrl.frozen 8
                  clear hrl
                  go_wp2
                  go_meet
                  exact ⟨rfl, rfl, gl, rfl, RL.out.sets (lckCs l) 0, Same.sets' (by omega) (lckCs l) 0 hsR⟩
              · intro vs wR hvl hvp hsR
                rcases vs with _ | ⟨z0, _ | ⟨z1, _ | ⟨z2, _ | ⟨z3, _ | ⟨z4, _ | ⟨z5, _ | ⟨z6, _ | ⟨z7, _ | ⟨z8, _ | ⟨z10, _ | ⟨zz, zr⟩⟩⟩⟩⟩⟩⟩⟩⟩⟩⟩
                rotate_right 1
                · simp at hvl
                · simp at hvl
                · simp at hvl
                · simp at hvl
                · simp at hvl
                · simp at hvl
                · simp at hvl
                · simp at hvl
                · simp at hvl
                · simp at hvl
                · simp at hvl
                · obtain rfl : z0 = (.pointer (some ⟨g, 0, none⟩)) := hvp 0 (by omega)
                  obtain rfl : z1 = (.pointer (some ⟨g, 0, none⟩)) := hvp 1 (by omega)
                  obtain rfl : z2 = (.pointer (some ⟨g, 6, none⟩)) := hvp 2 (by omega)
                  obtain rfl : z3 = (.slice Ac p.cells.length cc) := hvp 3 (by omega)
                  obtain rfl : z4 = (.pointer (some ⟨wo.heap.size, 0, none⟩)) := hvp 4 (by omega)
                  obtain rfl : z5 = (.string (str x.key)) := hvp 5 (by omega)
                  obtain rfl : z6 = (.tuple #[lckV l, .bool is]) := hvp 6 (by omega)
                  obtain rfl : z7 = (.tuple #[lckV l, .bool is]) := hvp 7 (by omega)
                  obtain rfl : z8 = (lckV l) := hvp 8 (by omega)
                  have hxl : (⟨fun v w => ∃ gl, v = .pointer (some ⟨gl, 0, none⟩) ∧ wb.heap.size ≤ gl ∧ Row w gl 30 (lckCs Lck.zero), fun _ _ _ ⟨gl, h1, h2, h3⟩ k => ⟨gl, h1, h2, h3.keep k trivial⟩⟩ : SP).p z10 wR := hvp 9 (by omega)
                  clear hvl hvp
                  simp only [putAll, Act.put, List.setIfInBounds_toArray, List.set_cons_succ, List.set_cons_zero, List.take_succ_cons, List.take_zero, List.drop_succ_cons, List.drop_zero, List.eraseIdx_cons_succ, List.eraseIdx_cons_zero]
                  obtain ⟨gl, rfl, hgl2, hrl⟩ := hxl
                  have zl := hrl.lt
                  have RL := Lib.hid hrl
                  have l0 := hrl.cell 0
                  have l1 := hrl.cell 1
                  have l2 := hrl.cell 2
                  have l3 := hrl.cell 3
                  have l4 := hrl.cell 4
                  have l5 := hrl.cell 5
                  have l6 := hrl.cell 6
                  have l7 := hrl.cell 7
                  have l8 := hrl.cell 8
                  simp only [lckCs, Lck.zero, List.getElem?_cons_zero, List.getElem?_cons_succ] at l0 l1 l2 l3 l4 l5 l6 l7 l8
                  have h0 := hrl.frozen 0
                  have h1 := hrl.frozen 1
                  have h2 := hrl.frozen 2
                  have h3 := hrl.frozen 3
                  have h4 := hrl.frozen 4
                  have h5 := hrl.frozen 5
                  have h6 := hrl.frozen 6
                  have h7 := hrl.frozen 7
                  have h8 := hrl.frozen 8
                  clear hrl
                  go_wp2
                  go_meet
                  exact ⟨rfl, rfl, gl, rfl, RL.out.sets (lckCs l) 0, Same.sets' (by omega) (lckCs l) 0 hsR⟩
            case rest =>
              obtain ⟨rfl, rfl, gl, rfl, hrl, hSc⟩ := hcut
              have hSc2 := HSa.out.trans hSc
              have HSw := Lib.hid (HSw.out.trans hSc2)
              have HS3 := Lib.hid (HS3.out.trans hSc2)
              have R1 := Lib.hid (R1.out.keep hSc2 trivial)
              have HP := Lib.hid (HP.out.keep hSc2 trivial)
              have R0 := Lib.hid (R0.out.keep hSc2 trivial)
              clear p0 p1 p2 p3 p4 p5 p6 p7 p8 c0 c1 c2 c3 c4 c5 c6 c7 c8 c9 c10 c11 c12 c13 e0 f0 e1 f1 e2 f2 e3 f3 e4 f4 e5 f5 e6 f6 e7 f7 e8 f8 e9 f9 e10 f10 zp z1
              clear q0 zq gb hSc hSc2
              cases is
              · have Hst2 := Lib.hid (show heldFirst p.cells (c.writes.drop k) = heldFirst p.cells (c.writes.drop (k + 1)) by simpa using Hst.out)
                clear hrl
                go_wp2
                go_roundw
                case rel => exact ⟨k + 1, by go_num, by omega, by rw [← Hst2.out]; exact Hbl.out, HS3.out⟩
                case measure => simp [intOf]; omega
              · have hhl : heldFirst p.cells c.writes = some l := by rw [← Hbl.out]; simpa using Hst.out
                have HL := Lib.hid (show prepareF p c = (p, lockedR l) by
                  unfold prepareF
                  rw [if_neg (by rw [HNO.out]; simp), if_neg (by rw [← Hmi.out]; simp), if_neg (by have := Hcl.out; omega), if_neg (by rw [← Hls.out]; simp), hhl])
                clear hhl
                have l0 := hrl.cell 0
                have l1 := hrl.cell 1
                have l2 := hrl.cell 2
                have l3 := hrl.cell 3
                have l4 := hrl.cell 4
                have l5 := hrl.cell 5
                have l6 := hrl.cell 6
                have l7 := hrl.cell 7
                have l8 := hrl.cell 8
                simp only [lckCs, List.getElem?_cons_zero, List.getElem?_cons_succ] at l0 l1 l2 l3 l4 l5 l6 l7 l8
                have zl := hrl.lt
                clear hrl
                have hp := HP.out.keep (Same.refl (fun _ => True) wc) trivial
                have r0 := R0.out.keep (Same.refl (fun _ => True) wc) trivial
                have r1 := R1.out.keep (Same.refl (fun _ => True) wc) trivial
                have p0 := hp.cell 0
                have p1 := hp.cell 1
                have p2 := hp.cell 2
                have p3 := hp.cell 3
                have p4 := hp.cell 4
                have p5 := hp.cell 5
                have p6 := hp.cell 6
                have p7 := hp.cell 7
                have p8 := hp.cell 8
                simp only [List.getElem?_cons_zero, List.getElem?_cons_succ] at p0 p1 p2 p3 p4 p5 p6 p7 p8
                have c0 := r0.cell 0
                have c1 := r0.cell 1
                have c2 := r0.cell 2
                have c3 := r0.cell 3
                have c4 := r0.cell 4
                have c5 := r0.cell 5
                have c6 := r0.cell 6
                have c7 := r0.cell 7
                have c8 := r0.cell 8
                have c9 := r0.cell 9
                have c10 := r0.cell 10
                have c11 := r0.cell 11
                have c12 := r0.cell 12
                have c13 := r0.cell 13
                simp only [List.getElem?_cons_zero, List.getElem?_cons_succ] at c0 c1 c2 c3 c4 c5 c6 c7 c8 c9 c10 c11 c12 c13
                have e0 := r1.cell 0
                have e1 := r1.cell 1
                have e2 := r1.cell 2
                have e3 := r1.cell 3
                have e4 := r1.cell 4
                have e5 := r1.cell 5
                have e6 := r1.cell 6
                have e7 := r1.cell 7
                have e8 := r1.cell 8
                have e9 := r1.cell 9
                have e10 := r1.cell 10
                simp only [List.getElem?_cons_zero, List.getElem?_cons_succ] at e0 e1 e2 e3 e4 e5 e6 e7 e8 e9 e10
                have f0 := r1.frozen 0
                have f1 := r1.frozen 1
                have f2 := r1.frozen 2
                have f3 := r1.frozen 3
                have f4 := r1.frozen 4
                have f5 := r1.frozen 5
                have f6 := r1.frozen 6
                have f7 := r1.frozen 7
                have f8 := r1.frozen 8
                have f9 := r1.frozen 9
                have f10 := r1.frozen 10
                have zp := hp.lt
                have z1 := r1.lt
                clear hp r0 r1
                go_wp2_with (go_at_call 112; refine stopAt ?_)
                unfold Hid
                refine (locked_any l wc).mono ?_
                rintro e wd ⟨rfl, hSd⟩
                have HSw := Lib.hid (HSw.out.trans hSd)
                have R1 := Lib.hid (R1.out.keep hSd trivial)
                have HP := Lib.hid (HP.out.keep hSd trivial)
                have R0 := Lib.hid (R0.out.keep hSd trivial)
                clear hSd l0 l1 l2 l3 l4 l5 l6 l7 l8 zl
                clear p0 p1 p2 p3 p4 p5 p6 p7 p8 c0 c1 c2 c3 c4 c5 c6 c7 c8 c9 c10 c11 c12 c13 e0 f0 e1 f1 e2 f2 e3 f3 e4 f4 e5 f5 e6 f6 e7 f7 e8 f8 e9 f9 e10 f10 zp z1
                have hp := HP.out.keep (Same.refl (fun _ => True) wd) trivial
                have r0 := R0.out.keep (Same.refl (fun _ => True) wd) trivial
                have r1 := R1.out.keep (Same.refl (fun _ => True) wd) trivial
                have p0 := hp.cell 0
                have p1 := hp.cell 1
                have p2 := hp.cell 2
                have p3 := hp.cell 3
                have p4 := hp.cell 4
                have p5 := hp.cell 5
                have p6 := hp.cell 6
                have p7 := hp.cell 7
                have p8 := hp.cell 8
                simp only [List.getElem?_cons_zero, List.getElem?_cons_succ] at p0 p1 p2 p3 p4 p5 p6 p7 p8
                have c0 := r0.cell 0
                have c1 := r0.cell 1
                have c2 := r0.cell 2
                have c3 := r0.cell 3
                have c4 := r0.cell 4
                have c5 := r0.cell 5
                have c6 := r0.cell 6
                have c7 := r0.cell 7
                have c8 := r0.cell 8
                have c9 := r0.cell 9
                have c10 := r0.cell 10
                have c11 := r0.cell 11
                have c12 := r0.cell 12
                have c13 := r0.cell 13
                simp only [List.getElem?_cons_zero, List.getElem?_cons_succ] at c0 c1 c2 c3 c4 c5 c6 c7 c8 c9 c10 c11 c12 c13
                have e0 := r1.cell 0
                have e1 := r1.cell 1
                have e2 := r1.cell 2
                have e3 := r1.cell 3
                have e4 := r1.cell 4
                have e5 := r1.cell 5
                have e6 := r1.cell 6
                have e7 := r1.cell 7
                have e8 := r1.cell 8
                have e9 := r1.cell 9
                have e10 := r1.cell 10
                simp only [List.getElem?_cons_zero, List.getElem?_cons_succ] at e0 e1 e2 e3 e4 e5 e6 e7 e8 e9 e10
                have f0 := r1.frozen 0
                have f1 := r1.frozen 1
                have f2 := r1.frozen 2
                have f3 := r1.frozen 3
                have f4 := r1.frozen 4
                have f5 := r1.frozen 5
                have f6 := r1.frozen 6
                have f7 := r1.frozen 7
                have f8 := r1.frozen 8
                have f9 := r1.frozen 9
                have f10 := r1.frozen 10
                have zp := hp.lt
                have z1 := r1.lt
                clear hp r0 r1
                go_wp2
                have hS9 := Same.sets' (S := Sd g vr (.slice Ad p.done.length cd)) (w := w) (g := w.heap.size + 1) (by omega) (repCs nilV (lockedR l)) 0 (HSw.out.mono fun _ _ _ => trivial)
                have hq9 := Same.sets (S := fun q => q ≠ w.heap.size + 1) (g := w.heap.size + 1) (fun h => h rfl) (repCs nilV (lockedR l)) 0 (Same.refl _ wd)
                rw [HL.out]
                exact bodyPost_ret (prepare_results (r := lockedR l) (vp := nilV) (show Row _ _ _ (repCs nilV (lockedR l)) from R1.out.sets (repCs nilV (lockedR l)) 0) rfl) rfl ⟨_, _, _, _, rfl, HP.out.keep hq9 (by omega), ((Ho.out.keepAll HSw.out).keepRep R1.out hq9), OwnR.nil _ _, hS9⟩
          · obtain rfl : k = c.writes.length := by omega
            have hnb : heldFirst p.cells c.writes = none := by rw [← Hbl.out, List.drop_length]; rfl
            have HL := Lib.hid (show prepareF p c = ({ p with cells := lockAll c p.cells c.writes }, ReplyM.zero) by
              unfold prepareF
              rw [if_neg (by rw [HNO.out]; simp), if_neg (by rw [← Hmi.out]; simp), if_neg (by have := Hcl.out; omega), if_neg (by rw [← Hls.out]; simp), hnb])
            clear hnb Hbl
            obtain ⟨wz, rfl⟩ : ∃ wz : World, wz = wo := ⟨_, rfl⟩
            go_wp2
            clear p0 p1 p2 p3 p4 p5 p6 p7 p8 c0 c1 c2 c3 c4 c5 c6 c7 c8 c9 c10 c11 c12 c13 e0 f0 e1 f1 e2 f2 e3 f3 e4 f4 e5 f5 e6 f6 e7 f7 e8 f8 e9 f9 e10 f10 zp z1
            go_loopw [12, 87] (fun _ i wr => ∃ (k : Nat) (v : Value), i = .int .i64 k ∧ k ≤ c.writes.length ∧ Row wr g 77 (partCs v vr (.slice Ad p.done.length cd) { p with cells := lockAll c p.cells (c.writes.take k) }) ∧ OwnPart wr B v vr (.slice Ad p.done.length cd) { p with cells := lockAll c p.cells (c.writes.take k) } ∧ Same (fun q => q ≠ g) wz wr) (fun _ i _ => c.writes.length - (intOf i).toNat)
            case atStart => exact ⟨0, _, rfl, Nat.zero_le _, HP.out, (Ho.out.keepAll HSw.out).upd, Same.refl _ _⟩
            case round =>
              obtain ⟨k, v, rfl, hk, hpr, hown, hS4⟩ := hrel
              obtain ⟨wo, rfl⟩ : ∃ wo : World, wo = wr := ⟨_, rfl⟩
              obtain ⟨Ax, nx, cx, rfl, hx1, hx2⟩ := hown.cells.form3
              unfold maxLen at hx2
              have hfk := lockAll_fine (c := c) Hf.out (c.writes.take k)
              have hlk : (c.writes.take k).length ≤ c.writes.length := List.length_take_le' _ _
              have Hfk := Lib.hid hfk
              have HSv := Lib.hid ((HSw.out.mono (S' := fun q => q ≠ g) fun _ _ _ => trivial).trans hS4)
              have HS4 := Lib.hid hS4
              have HP := Lib.hid hpr
              have Hown := Lib.hid hown
              have R1 := Lib.hid (R1.out.keep hS4 (by omega))
              have R0 := Lib.hid (R0.out.keep hS4 (by omega))
              have hzo := hS4.size
              clear hS4 hpr hown hfk
              have hp := HP.out
              unfold partCs at hp
              have r0 := R0.out
              have r1 := R1.out
              have p0 := hp.cell 0
              have p1 := hp.cell 1
              have p2 := hp.cell 2
              have p3 := hp.cell 3
              have p4 := hp.cell 4
              have p5 := hp.cell 5
              have p6 := hp.cell 6
              have p7 := hp.cell 7
              have p8 := hp.cell 8
              simp only [List.getElem?_cons_zero, List.getElem?_cons_succ] at p0 p1 p2 p3 p4 p5 p6 p7 p8
              have c0 := r0.cell 0
              have c1 := r0.cell 1
              have c2 := r0.cell 2
              have c3 := r0.cell 3
              have c4 := r0.cell 4
              have c5 := r0.cell 5
              have c6 := r0.cell 6
              have c7 := r0.cell 7
              have c8 := r0.cell 8
              have c9 := r0.cell 9
              have c10 := r0.cell 10
              have c11 := r0.cell 11
              have c12 := r0.cell 12
              have c13 := r0.cell 13
              simp only [List.getElem?_cons_zero, List.getElem?_cons_succ] at c0 c1 c2 c3 c4 c5 c6 c7 c8 c9 c10 c11 c12 c13
              have e0 := r1.cell 0
              have e1 := r1.cell 1
              have e2 := r1.cell 2
              have e3 := r1.cell 3
              have e4 := r1.cell 4
              have e5 := r1.cell 5
              have e6 := r1.cell 6
              have e7 := r1.cell 7
              have e8 := r1.cell 8
              have e9 := r1.cell 9
              have e10 := r1.cell 10
              simp only [List.getElem?_cons_zero, List.getElem?_cons_succ] at e0 e1 e2 e3 e4 e5 e6 e7 e8 e9 e10
              have f0 := r1.frozen 0
              have f1 := r1.frozen 1
              have f2 := r1.frozen 2
              have f3 := r1.frozen 3
              have f4 := r1.frozen 4
              have f5 := r1.frozen 5
              have f6 := r1.frozen 6
              have f7 := r1.frozen 7
              have f8 := r1.frozen 8
              have f9 := r1.frozen 9
              have f10 := r1.frozen 10
              have k6 := hp.frozen 6
              have zp := hp.lt
              have z1 := r1.lt
              clear hp r0 r1
              by_cases hlt : k < c.writes.length
              · obtain ⟨ad, rfl, -, s0_, s1_, s2_⟩ := WrR.cells (RowR.keep Hsp.out (HSv.out.mono fun q _ hq => by have := HSB.out q hq; omega)) hlt
                have x1 : (0 : Int) ≤ (k : Int) := by omega
                have x2 : (k : Int) < (c.writes.length : Int) := by omega
                have hab := World.block_lt_of_cell? wo _ s0_
                have hst := lockAll_step (c := c) (cs := p.cells) hlt
                have gl := fun W (hW : Same (fun _ => True) wo W) => mvlock_any (.slice Ax nx cx) (lockAll c p.cells (c.writes.take k)) c.writes[k] ⟨c.by_, c.home, c.at_, false, []⟩ _ W (Hown.out.cells.reads.keepAll hW) (Hfk.out.len (by omega)) (Hfk.out.vers (by omega)) Hfk.out.good.sorted
                have Hst := Lib.hid hst
                clear hst
                unfold lockOne at Hst
                generalize c.writes[k] = x at *
                go_wp2
                have q_ := Row.new wo 24 (wrCs x)
                have hSa := (Same.refl (fun _ => True) wo).alloc (.cells (wrCs x).toArray 24)
                simp only [wrCs] at q_ hSa
                clear hab s0_ s1_ s2_
                clear p0 p1 p2 p3 p4 p5 p6 p7 p8 c0 c1 c2 c3 c4 c5 c6 c7 c8 c9 c10 c11 c12 c13 e0 f0 e1 f1 e2 f2 e3 f3 e4 f4 e5 f5 e6 f6 e7 f7 e8 f8 e9 f9 e10 f10 zp z1 k6
                revert q_ hSa
                generalize wo.alloc (.cells _ 24) = wb
                intro q_ hSa
                have HSa := Lib.hid hSa
                have gl := fun W (hW : Same (fun _ => True) wb W) => gl W (hSa.trans hW)
                have hzb := hSa.size
                have R1 := Lib.hid (R1.out.keep hSa trivial)
                have R0 := Lib.hid (R0.out.keep hSa trivial)
                have HPb := Lib.hid (HP.out.keep hSa trivial)
                have Hownb := Lib.hid (Hown.out.keepAll hSa)
                clear hSa
                have hp := HPb.out
                unfold partCs at hp
                have r0 := R0.out
                have p0 := hp.cell 0
                have p1 := hp.cell 1
                have p2 := hp.cell 2
                have p3 := hp.cell 3
                have p4 := hp.cell 4
                have p5 := hp.cell 5
                have p6 := hp.cell 6
                have p7 := hp.cell 7
                have p8 := hp.cell 8
                simp only [List.getElem?_cons_zero, List.getElem?_cons_succ] at p0 p1 p2 p3 p4 p5 p6 p7 p8
                have c0 := r0.cell 0
                have c1 := r0.cell 1
                have c2 := r0.cell 2
                have c3 := r0.cell 3
                have c4 := r0.cell 4
                have c5 := r0.cell 5
                have c6 := r0.cell 6
                have c7 := r0.cell 7
                have c8 := r0.cell 8
                have c9 := r0.cell 9
                have c10 := r0.cell 10
                have c11 := r0.cell 11
                have c12 := r0.cell 12
                have c13 := r0.cell 13
                simp only [List.getElem?_cons_zero, List.getElem?_cons_succ] at c0 c1 c2 c3 c4 c5 c6 c7 c8 c9 c10 c11 c12 c13
                have zp := hp.lt
                have q0 := q_.cell 0
                have q1 := q_.cell 1
                have q2 := q_.cell 2
                simp only [List.getElem?_cons_zero, List.getElem?_cons_succ] at q0 q1 q2
                have zq := q_.lt
                clear hp r0 q_
                refine wp_region_tail_lit (L := [.eq (.pointer (some ⟨g, 0, none⟩)), .eq (.pointer (some ⟨g, 0, none⟩)), .eq (.pointer (some ⟨g, 0, none⟩)), .eq (.pointer (some ⟨g, 6, none⟩)), .eq (.slice Ax nx cx), .eq (wrV x), .eq (.pointer (some ⟨w.heap.size, 4, none⟩)), .eq (tryV c.by_), .eq (.pointer (some ⟨w.heap.size, 3, none⟩)), .eq (.int .i64 c.home), .eq (.pointer (some ⟨w.heap.size, 8, none⟩)), .eq (stV c.at_), .eq (lckV ⟨c.by_, c.home, c.at_, false, []⟩), .of ⟨fun v w => OwnC w B v (lockF (lockAll c p.cells (c.writes.take k)) x.key (lockW x ⟨c.by_, c.home, c.at_, false, []⟩)), fun _ _ _ h k => h.keepAll k⟩]) 14 (by kernel_rfl) (by kernel_rfl) rfl rfl rfl ?_ ?_
                · refine ⟨?_, ?_, ?_, ?_, ?_, ?_, ?_, ?_, ?_, ?_, ?_, ?_, ?_, ?_, trivial⟩
                  · intro ac wc hs hd hz hf hw K hK
                    have e0 : ac.eval (.tmp 0) = (.pointer (some ⟨g, 0, none⟩)) := hf 0 rfl
                    clear hd hz hf hw
                    simp only [Region.wanted, if_true, Oper.wp, execOp, resolve, List.map_toArray, List.map_cons, List.map_nil, Option.map_some, Option.map_none, e0]
                    go_simp
                    exact hK _ _ rfl (Same.refl _ _)
                  · intro ac wc hs hd hz hf hw K hK
                    have e0 : ac.eval (.tmp 0) = (.pointer (some ⟨g, 0, none⟩)) := hf 0 rfl
                    clear hd hz hf hw
                    simp only [Region.wanted, if_true, Oper.wp, execOp, resolve, List.map_toArray, List.map_cons, List.map_nil, Option.map_some, Option.map_none, e0]
                    go_simp
                    exact hK _ _ rfl (Same.refl _ _)
                  · intro ac wc hs hd hz hf hw K hK
                    have e0 : ac.eval (.tmp 92) = (.pointer (some ⟨g, 0, none⟩)) := hw 1 rfl
                    clear hd hz hf hw
                    simp only [Region.wanted, if_true, Oper.wp, execOp, resolve, List.map_toArray, List.map_cons, List.map_nil, Option.map_some, Option.map_none, e0]
                    go_simp
                    exact hK _ _ rfl (Same.refl _ _)
                  · intro ac wc hs hd hz hf hw K hK
                    have e0 : ac.eval (.tmp 93) = (.pointer (some ⟨g, 0, none⟩)) := hw 2 rfl
                    clear hd hz hf hw
                    simp only [Region.wanted, if_true, Oper.wp, execOp, resolve, List.map_toArray, List.map_cons, List.map_nil, Option.map_some, Option.map_none, e0]
                    go_simp
                    exact hK _ _ rfl (Same.refl _ _)
                  · intro ac wc hs hd hz hf hw K hK
                    have e0 : ac.eval (.tmp 94) = (.pointer (some ⟨g, 6, none⟩)) := hw 3 rfl
                    have m0 : wc.cell? ⟨g, 6, none⟩ = some (.slice Ax nx cx) := hs.cell (p := ⟨g, 6, none⟩) trivial p6
                    clear hd hz hf hw
                    simp only [Region.wanted, if_true, Oper.wp, execOp, resolve, List.map_toArray, List.map_cons, List.map_nil, Option.map_some, Option.map_none, e0]
                    go_simp
                    exact hK _ _ rfl (Same.refl _ _)
                  · intro ac wc hs hd hz hf hw K hK
                    have e0 : ac.eval (.tmp 12) = (.pointer (some ⟨wo.heap.size, 0, none⟩)) := hf 12 rfl
                    have m0 : wc.cell? ⟨wo.heap.size, 0, none⟩ = some (.string (str x.key)) := hs.cell (p := ⟨wo.heap.size, 0, none⟩) trivial q0
                    have m1 : wc.cell? ⟨wo.heap.size, 1, none⟩ = some (.bool x.drop) := hs.cell (p := ⟨wo.heap.size, 1, none⟩) trivial q1
                    have m2 : wc.cell? ⟨wo.heap.size, 2, none⟩ = some (.string (str x.data)) := hs.cell (p := ⟨wo.heap.size, 2, none⟩) trivial q2
                    clear hd hz hf hw
                    simp only [Region.wanted, if_true, Oper.wp, execOp, resolve, List.map_toArray, List.map_cons, List.map_nil, Option.map_some, Option.map_none, e0]
                    go_simp
                    exact hK _ _ rfl (Same.refl _ _)
                  · intro ac wc hs hd hz hf hw K hK
                    have e0 : ac.eval (.tmp 3) = (.pointer (some ⟨w.heap.size, 0, none⟩)) := hf 3 rfl
                    clear hd hz hf hw
                    simp only [Region.wanted, if_true, Oper.wp, execOp, resolve, List.map_toArray, List.map_cons, List.map_nil, Option.map_some, Option.map_none, e0]
                    go_simp
                    exact hK _ _ rfl (Same.refl _ _)
                  · intro ac wc hs hd hz hf hw K hK
                    have e0 : ac.eval (.tmp 97) = (.pointer (some ⟨w.heap.size, 4, none⟩)) := hw 6 rfl
                    have m0 : wc.cell? ⟨w.heap.size, 4, none⟩ = some (.int .i64 c.by_.node) := hs.cell (p := ⟨w.heap.size, 4, none⟩) trivial c4
                    have m1 : wc.cell? ⟨w.heap.size, 5, none⟩ = some (.int .i64 c.by_.life) := hs.cell (p := ⟨w.heap.size, 5, none⟩) trivial c5
                    have m2 : wc.cell? ⟨w.heap.size, 6, none⟩ = some (.int .i64 c.by_.seq) := hs.cell (p := ⟨w.heap.size, 6, none⟩) trivial c6
                    have m3 : wc.cell? ⟨w.heap.size, 7, none⟩ = some (.int .i64 c.by_.attempt) := hs.cell (p := ⟨w.heap.size, 7, none⟩) trivial c7
                    clear hd hz hf hw
                    simp only [Region.wanted, if_true, Oper.wp, execOp, resolve, List.map_toArray, List.map_cons, List.map_nil, Option.map_some, Option.map_none, e0]
                    go_simp
                    exact hK _ _ rfl (Same.refl _ _)
                  · intro ac wc hs hd hz hf hw K hK
                    have e0 : ac.eval (.tmp 3) = (.pointer (some ⟨w.heap.size, 0, none⟩)) := hf 3 rfl
                    clear hd hz hf hw
                    simp only [Region.wanted, if_true, Oper.wp, execOp, resolve, List.map_toArray, List.map_cons, List.map_nil, Option.map_some, Option.map_none, e0]
                    go_simp
                    exact hK _ _ rfl (Same.refl _ _)
                  · intro ac wc hs hd hz hf hw K hK
                    have e0 : ac.eval (.tmp 99) = (.pointer (some ⟨w.heap.size, 3, none⟩)) := hw 8 rfl
                    have m0 : wc.cell? ⟨w.heap.size, 3, none⟩ = some (.int .i64 c.home) := hs.cell (p := ⟨w.heap.size, 3, none⟩) trivial c3
                    clear hd hz hf hw
                    simp only [Region.wanted, if_true, Oper.wp, execOp, resolve, List.map_toArray, List.map_cons, List.map_nil, Option.map_some, Option.map_none, e0]
                    go_simp
                    exact hK _ _ rfl (Same.refl _ _)
                  · intro ac wc hs hd hz hf hw K hK
                    have e0 : ac.eval (.tmp 3) = (.pointer (some ⟨w.heap.size, 0, none⟩)) := hf 3 rfl
                    clear hd hz hf hw
                    simp only [Region.wanted, if_true, Oper.wp, execOp, resolve, List.map_toArray, List.map_cons, List.map_nil, Option.map_some, Option.map_none, e0]
                    go_simp
                    exact hK _ _ rfl (Same.refl _ _)
                  · intro ac wc hs hd hz hf hw K hK
                    have e0 : ac.eval (.tmp 101) = (.pointer (some ⟨w.heap.size, 8, none⟩)) := hw 10 rfl
                    have m0 : wc.cell? ⟨w.heap.size, 8, none⟩ = some (.int .i64 c.at_.wall) := hs.cell (p := ⟨w.heap.size, 8, none⟩) trivial c8
                    have m1 : wc.cell? ⟨w.heap.size, 9, none⟩ = some (.int .i64 c.at_.tie) := hs.cell (p := ⟨w.heap.size, 9, none⟩) trivial c9
                    clear hd hz hf hw
                    simp only [Region.wanted, if_true, Oper.wp, execOp, resolve, List.map_toArray, List.map_cons, List.map_nil, Option.map_some, Option.map_none, e0]
                    go_simp
                    exact hK _ _ rfl (Same.refl _ _)
                  · intro ac wc hs hd hz hf hw K hK
                    have e0 : ac.eval (.tmp 98) = (tryV c.by_) := hw 7 rfl
                    have e1 : ac.eval (.tmp 100) = (.int .i64 c.home) := hw 9 rfl
                    have e2 : ac.eval (.tmp 102) = (stV c.at_) := hw 11 rfl
                    clear hd hz hf hw
                    simp only [Region.wanted, if_true, Oper.wp, execOp, resolve, List.map_toArray, List.map_cons, List.map_nil, Option.map_some, Option.map_none, e0, e1, e2]
                    go_simp
                    exact hK _ _ rfl (Same.refl _ _)
                  · intro ac wc hs hd hz hf hw K hK
                    have e0 : ac.eval (.tmp 95) = (.slice Ax nx cx) := hw 4 rfl
                    have e1 : ac.eval (.tmp 96) = (wrV x) := hw 5 rfl
                    have e2 : ac.eval (.tmp 103) = (lckV ⟨c.by_, c.home, c.at_, false, []⟩) := hw 12 rfl
                    clear hd hz hf hw
                    simp only [Region.wanted, if_true, Oper.wp, execOp, resolve, List.map_toArray, List.map_cons, List.map_nil, Option.map_some, Option.map_none, e0, e1, e2]
                    go_simp
                    refine (gl wc hs).mono ?_
                    rintro e wd ⟨u, rfl, hown, hS⟩
                    exact hK _ _ (hown.lower (by have := hs.size; omega)) hS
                · intro vs wR hvl hvp hsR
                  rcases vs with _ | ⟨z0, _ | ⟨z1, _ | ⟨z2, _ | ⟨z3, _ | ⟨z4, _ | ⟨z5, _ | ⟨z6, _ | ⟨z7, _ | ⟨z8, _ | ⟨z9, _ | ⟨z10, _ | ⟨z11, _ | ⟨z12, _ | ⟨z13, _ | ⟨zz, zr⟩⟩⟩⟩⟩⟩⟩⟩⟩⟩⟩⟩⟩⟩⟩
                  rotate_right 1
                  · simp at hvl
                  · simp at hvl
                  · simp at hvl
                  · simp at hvl
                  · simp at hvl
                  · simp at hvl
                  · simp at hvl
                  · simp at hvl
                  · simp at hvl
                  · simp at hvl
                  · simp at hvl
                  · simp at hvl
                  · simp at hvl
                  · simp at hvl
                  · simp at hvl
                  · obtain rfl : z0 = (.pointer (some ⟨g, 0, none⟩)) := hvp 0 (by omega)
                    obtain rfl : z1 = (.pointer (some ⟨g, 0, none⟩)) := hvp 1 (by omega)
                    obtain rfl : z2 = (.pointer (some ⟨g, 0, none⟩)) := hvp 2 (by omega)
                    obtain rfl : z3 = (.pointer (some ⟨g, 6, none⟩)) := hvp 3 (by omega)
                    obtain rfl : z4 = (.slice Ax nx cx) := hvp 4 (by omega)
                    obtain rfl : z5 = (wrV x) := hvp 5 (by omega)
                    obtain rfl : z6 = (.pointer (some ⟨w.heap.size, 4, none⟩)) := hvp 6 (by omega)
                    obtain rfl : z7 = (tryV c.by_) := hvp 7 (by omega)
                    obtain rfl : z8 = (.pointer (some ⟨w.heap.size, 3, none⟩)) := hvp 8 (by omega)
                    obtain rfl : z9 = (.int .i64 c.home) := hvp 9 (by omega)
                    obtain rfl : z10 = (.pointer (some ⟨w.heap.size, 8, none⟩)) := hvp 10 (by omega)
                    obtain rfl : z11 = (stV c.at_) := hvp 11 (by omega)
                    obtain rfl : z12 = (lckV ⟨c.by_, c.home, c.at_, false, []⟩) := hvp 12 (by omega)
                    have hxc : (⟨fun v w => OwnC w B v (lockF (lockAll c p.cells (c.writes.take k)) x.key (lockW x ⟨c.by_, c.home, c.at_, false, []⟩)), fun _ _ _ h k => h.keepAll k⟩ : SP).p z13 wR := hvp 13 (by omega)
                    clear hvl hvp
                    simp only [putAll, Act.put, List.setIfInBounds_toArray, List.set_cons_succ, List.set_cons_zero, List.take_succ_cons, List.take_zero, List.drop_succ_cons, List.drop_zero, List.eraseIdx_cons_succ, List.eraseIdx_cons_zero]
                    obtain ⟨Ay, ny, cy, rfl, hy1, hy2⟩ := hxc.form3
                    have HXC := Lib.hid hxc
                    have HSR := Lib.hid hsR
                    have hp := HPb.out.keep hsR trivial
                    clear p0 p1 p2 p3 p4 p5 p6 p7 p8 c0 c1 c2 c3 c4 c5 c6 c7 c8 c9 c10 c11 c12 c13 q0 q1 q2 zq gl hxc hsR
                    have HPR := Lib.hid hp
                    unfold partCs at hp
                    have p6 := hp.cell 6
                    simp only [List.getElem?_cons_zero, List.getElem?_cons_succ] at p6
                    have k6 := hp.frozen 6
                    have zp := hp.lt
                    clear hp
                    go_wp2
                    go_roundw
                    case rel =>
                      have hs8 : Same (fun q => q ≠ g) wR (wR.setCell ⟨g, 6, none⟩ (.slice Ay ny cy)) := (Same.refl _ _).setCell (fun _ h => h rfl) _
                      have hall := HSa.out.trans HSR.out
                      refine ⟨k + 1, .slice Ay ny cy, by go_num, by omega, HPR.out.set_ 6 _, ⟨?_, ?_, ?_, Hown.out.apart⟩, (HS4.out.trans' hall fun _ _ _ => trivial).trans' hs8 fun q _ hq => hq⟩
                      · rw [show lockAll c p.cells (c.writes.take (k + 1)) = _ from Hst.out]
                        exact HXC.out.keepG HPR.out (by decide) (by decide) hs8
                      · exact OwnR.keepG (Hown.out.recs.keepAll hall) HPR.out (by decide) hs8
                      · exact OwnR.keepG (Hown.out.done.keepAll hall) HPR.out (by decide) hs8
                    case measure => simp [intOf]; omega
              · obtain rfl : k = c.writes.length := by omega
                rw [List.take_length] at HP Hown
                clear k6
                go_wp2
                have hS9 := Same.sets' (S := Sd g vr (.slice Ad p.done.length cd)) (w := w) (g := w.heap.size + 1) (by omega) (repCs nilV ReplyM.zero) 0 (HSv.out.mono fun q _ hq => hq.1)
                have hq9 := Same.sets (S := fun q => q ≠ w.heap.size + 1) (g := w.heap.size + 1) (fun h => h rfl) (repCs nilV ReplyM.zero) 0 (Same.refl _ wo)
                rw [HL.out]
                exact bodyPost_ret (prepare_results (r := ReplyM.zero) (vp := nilV) (show Row _ _ _ (repCs nilV ReplyM.zero) from R1.out.sets (repCs nilV ReplyM.zero) 0) rfl) rfl ⟨_, _, _, _, rfl, HP.out.keep hq9 (by omega), Hown.out.keepRep R1.out hq9, OwnR.nil _ _, hS9⟩
end Go.Proofs.Ytoldelocfmpccaa
