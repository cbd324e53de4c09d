/-
  Words, plain models, laws and walks that the claims of this layer share (joined by shake.py). No condition.
-/
import Derived.StillTailTactics
import Derived.Test.YtpjinngngbifoaaU1
import Derived.Test.YtpjinngngbifoaaU2
set_option linter.unusedSimpArgs false
set_option linter.unusedVariables false
namespace Go.Proofs.Ytpjinngngbifoaa
open Go.RowKit Go.ChangeMaps Go.MapKept
@[go_sem] theorem files_nil (w : World) (r : Option Nat) : (binOp .eql 72 (.map r) (.map none)).run Try.prog w = .ok (.bool r.isNone) w :=
  run_eql_map_nil w _ _ _ r Try.underlying72
@[go_sem] theorem disk_nil (w : World) (p : Option Addr) : (binOp .eql 29 (.pointer p) (.pointer none)).run Try.prog w = .ok (.bool p.isNone) w :=
  run_eql_pointer_nil w _ p (by kernel_rfl)
def fileV (f : Int) (v0 v1 : Value) (l0 l1 : Nat) : Value :=
  if f = 0 then .agg #[v0, .int .i64 l0] else if f = 1 then .agg #[v1, .int .i64 l1] else .agg #[.slice none 0 0, .int .i64 0]
/-- The map of a disk's files, laid in either order. -/
def mapOf (sw : Bool) (v0 v1 : Value) (l0 l1 k0 k1 : Nat) (clock : Nat) : Obj :=
  if sw then .map #[⟨.int .i64 1, .agg #[v1, .int .i64 l1], k1⟩, ⟨.int .i64 0, .agg #[v0, .int .i64 l0], k0⟩] clock
  else .map #[⟨.int .i64 0, .agg #[v0, .int .i64 l0], k0⟩, ⟨.int .i64 1, .agg #[v1, .int .i64 l1], k1⟩] clock
theorem zero_file (w : World) : (zeroValue 71).run Try.prog w = .ok (.agg #[.slice none 0 0, .int .i64 0]) w := by
  obtain ⟨i, hi, hz, _⟩ := info_parts (by kernel_rfl : (Try.prog.info? 71).map (fun i => (i.zero, i.size, i.bytes)) = some (some (Value.agg #[.slice none 0 0, .int .i64 0]), 2, 32))
  simp [zeroValue, typeInfo, hi, hz]
theorem key_int (f : Int) : IsKey (.int .i64) (.int .i64 f) := rfl
theorem look_files {w : World} {r : Nat} {sw : Bool} {v0 v1 : Value} {l0 l1 k0 k1 clock : Nat} (hb : w.heap[r]? = some (mapOf sw v0 v1 l0 l1 k0 k1 clock)) (f : Int) (c : Bool) :
    (Instr.lookup 72 (.map (some r)) (.int .i64 f) c).run Try.prog w =
      .ok (if c then .tuple #[fileV f v0 v1 l0 l1, .bool (f == 0 || f == 1)] else fileV f v0 v1 l0 l1) w := by
  have hz := zero_file w
  have hk : ∀ e, (Instr.checkKey e 10000 3 (.int .i64 f)).run Try.prog w = .ok () w := fun e => run_checkKey Try.underlying3 (key_int f) e 9999
  have hf : ∀ (l : List MapEntry) a, Instr.findNow (.int .i64) (.int .i64 f) l 0 = some a → (Instr.findKey 3 (.int .i64 f) l).run Try.prog w = .ok a w := fun l a h => run_findKey Try.underlying3 h
  cases sw
  · have hb' : w.heap[r]? = some (.map #[⟨.int .i64 0, .agg #[v0, .int .i64 l0], k0⟩, ⟨.int .i64 1, .agg #[v1, .int .i64 l1], k1⟩] clock) := hb
    have hg := Go.MapKept.run_getObj_map (P := Try.prog) hb'
    by_cases h0 : f = 0
    · subst h0
      have h2 := hf [⟨.int .i64 0, .agg #[v0, .int .i64 l0], k0⟩, ⟨.int .i64 1, .agg #[v1, .int .i64 l1], k1⟩] (some (0, .agg #[v0, .int .i64 l0])) rfl
      cases c <;> simp [Instr.lookup, run_underlying Try.underlying72, hg, hk, h2, fileV]
    by_cases h1 : f = 1
    · subst h1
      have h2 := hf [⟨.int .i64 0, .agg #[v0, .int .i64 l0], k0⟩, ⟨.int .i64 1, .agg #[v1, .int .i64 l1], k1⟩] (some (1, .agg #[v1, .int .i64 l1])) rfl
      cases c <;> simp [Instr.lookup, run_underlying Try.underlying72, hg, hk, h2, fileV]
    have e0 : (f == 0) = false := by simpa using h0
    have e1 : (f == 1) = false := by simpa using h1
    have h2 := hf [⟨.int .i64 0, .agg #[v0, .int .i64 l0], k0⟩, ⟨.int .i64 1, .agg #[v1, .int .i64 l1], k1⟩] none (by simp only [Instr.findNow, Instr.sameNow, if_true, e0, e1])
    cases c <;> simp [Instr.lookup, run_underlying Try.underlying72, hg, hk, h2, hz, fileV, h0, h1]
  · have hb' : w.heap[r]? = some (.map #[⟨.int .i64 1, .agg #[v1, .int .i64 l1], k1⟩, ⟨.int .i64 0, .agg #[v0, .int .i64 l0], k0⟩] clock) := hb
    have hg := Go.MapKept.run_getObj_map (P := Try.prog) hb'
    by_cases h0 : f = 0
    · subst h0
      have h2 := hf [⟨.int .i64 1, .agg #[v1, .int .i64 l1], k1⟩, ⟨.int .i64 0, .agg #[v0, .int .i64 l0], k0⟩] (some (1, .agg #[v0, .int .i64 l0])) rfl
      cases c <;> simp [Instr.lookup, run_underlying Try.underlying72, hg, hk, h2, fileV]
    by_cases h1 : f = 1
    · subst h1
      have h2 := hf [⟨.int .i64 1, .agg #[v1, .int .i64 l1], k1⟩, ⟨.int .i64 0, .agg #[v0, .int .i64 l0], k0⟩] (some (0, .agg #[v1, .int .i64 l1])) rfl
      cases c <;> simp [Instr.lookup, run_underlying Try.underlying72, hg, hk, h2, fileV]
    have e0 : (f == 0) = false := by simpa using h0
    have e1 : (f == 1) = false := by simpa using h1
    have h2 := hf [⟨.int .i64 1, .agg #[v1, .int .i64 l1], k1⟩, ⟨.int .i64 0, .agg #[v0, .int .i64 l0], k0⟩] none (by simp only [Instr.findNow, Instr.sameNow, if_true, e0, e1])
    cases c <;> simp [Instr.lookup, run_underlying Try.underlying72, hg, hk, h2, hz, fileV, h0, h1]
theorem store_files {w : World} {r : Nat} {sw : Bool} {v0 v1 : Value} {l0 l1 k0 k1 clock : Nat} (hb : w.heap[r]? = some (mapOf sw v0 v1 l0 l1 k0 k1 clock)) (f : Int) (hf : f = 0 ∨ f = 1) (v : Value) (l : Nat) :
    (Instr.mapUpdate 72 (.map (some r)) (.int .i64 f) (.agg #[v, .int .i64 l])).run Try.prog w =
      .ok () (setBlock w r (mapOf sw (if f = 0 then v else v0) (if f = 0 then v1 else v) (if f = 0 then l else l0) (if f = 0 then l1 else l) k0 k1 clock)) := by
  have hk : ∀ e, (Instr.checkKey e 10000 3 (.int .i64 f)).run Try.prog w = .ok () w := fun e => run_checkKey Try.underlying3 (key_int f) e 9999
  have hff : ∀ (l : List MapEntry) a, Instr.findNow (.int .i64) (.int .i64 f) l 0 = some a → (Instr.findKey 3 (.int .i64 f) l).run Try.prog w = .ok a w := fun l a h => run_findKey Try.underlying3 h
  have hs : (Instr.keyThatStays (.int .i64 f) (.int .i64 f)).run Try.prog w = .ok (.int .i64 f) w := run_keyThatStays (key_int f)
  cases sw
  · have hb' : w.heap[r]? = some (.map #[⟨.int .i64 0, .agg #[v0, .int .i64 l0], k0⟩, ⟨.int .i64 1, .agg #[v1, .int .i64 l1], k1⟩] clock) := hb
    have hg := Go.MapKept.run_getObj_map (P := Try.prog) hb'
    have ho := fun o => Go.MapKept.run_setObj_map (P := Try.prog) o hb'
    rcases hf with rfl | rfl
    · have h2 := hff [⟨.int .i64 0, .agg #[v0, .int .i64 l0], k0⟩, ⟨.int .i64 1, .agg #[v1, .int .i64 l1], k1⟩] (some (0, .agg #[v0, .int .i64 l0])) rfl
      simp [Instr.mapUpdate, run_underlying Try.underlying72, hg, hk, h2, hs, ho, mapOf, setBlock, Result.andThen]
    · have h2 := hff [⟨.int .i64 0, .agg #[v0, .int .i64 l0], k0⟩, ⟨.int .i64 1, .agg #[v1, .int .i64 l1], k1⟩] (some (1, .agg #[v1, .int .i64 l1])) rfl
      simp [Instr.mapUpdate, run_underlying Try.underlying72, hg, hk, h2, hs, ho, mapOf, setBlock, Result.andThen]
  · have hb' : w.heap[r]? = some (.map #[⟨.int .i64 1, .agg #[v1, .int .i64 l1], k1⟩, ⟨.int .i64 0, .agg #[v0, .int .i64 l0], k0⟩] clock) := hb
    have hg := Go.MapKept.run_getObj_map (P := Try.prog) hb'
    have ho := fun o => Go.MapKept.run_setObj_map (P := Try.prog) o hb'
    rcases hf with rfl | rfl
    · have h2 := hff [⟨.int .i64 1, .agg #[v1, .int .i64 l1], k1⟩, ⟨.int .i64 0, .agg #[v0, .int .i64 l0], k0⟩] (some (1, .agg #[v0, .int .i64 l0])) rfl
      simp [Instr.mapUpdate, run_underlying Try.underlying72, hg, hk, h2, hs, ho, mapOf, setBlock, Result.andThen]
    · have h2 := hff [⟨.int .i64 1, .agg #[v1, .int .i64 l1], k1⟩, ⟨.int .i64 0, .agg #[v0, .int .i64 l0], k0⟩] (some (0, .agg #[v1, .int .i64 l1])) rfl
      simp [Instr.mapUpdate, run_underlying Try.underlying72, hg, hk, h2, hs, ho, mapOf, setBlock, Result.andThen]
/-- A disk in memory: its struct at g, its map at r, the files' bytes in blocks of F. -/
def DiskAt (w : World) (g r : Nat) (F : Nat → Prop) (d : DiskM) : Prop :=
  Row w g 74 [.map (some r), .int .i64 d.armed, .bool d.off, .int .i64 d.lives, .int .i64 d.steps] ∧
  g < w.heap.size ∧ r < w.heap.size ∧ g ≠ r ∧ (∀ k, F k → k < w.heap.size ∧ k ≠ g ∧ k ≠ r) ∧
  ∃ sw v0 v1 k0 k1 clock, w.heap[r]? = some (mapOf sw v0 v1 d.f0.last d.f1.last k0 k1 clock) ∧ k0 < clock ∧ k1 < clock ∧ k0 ≠ k1 ∧ By w F v0 d.f0.b ∧ By w F v1 d.f1.b
theorem DiskAt.keep {w w' : World} {g r : Nat} {F S : Nat → Prop} {d : DiskM} (h : DiskAt w g r F d) (hs : Same S w w') (hg : S g) (hr : S r) (hF : ∀ k, F k → S k) : DiskAt w' g r F d := by
  obtain ⟨h1, h2, h3, h0, h4, sw, v0, v1, k0, k1, c, h5, h6, h7, h8, h9, h10⟩ := h
  have hz := hs.size
  exact ⟨h1.keep hs hg, by omega, by omega, h0, fun k hk => by have := h4 k hk; exact ⟨by omega, this.2⟩, sw, v0, v1, k0, k1, c, (hs.block r h3 hr).trans h5, h6, h7, h8,
    h9.keep (hs.mono fun k _ hk => hF k hk), h10.keep (hs.mono fun k _ hk => hF k hk)⟩
theorem DiskAt.keepAll {w w' : World} {g r : Nat} {F : Nat → Prop} {d : DiskM} (h : DiskAt w g r F d) (hs : Same (fun _ => True) w w') : DiskAt w' g r F d := h.keep hs trivial trivial fun _ _ => trivial
abbrev ptr (g : Nat) : Value := .pointer (some ⟨g, 0, none⟩)
theorem fileV_form {w : World} {F : Nat → Prop} {v0 v1 : Value} {b0 b1 : List UInt8} (f : Int) (l0 l1 : Nat) (h0 : By w F v0 b0) (h1 : By w F v1 b1) : ∃ A n c l, fileV f v0 v1 l0 l1 = .agg #[.slice A n c, .int .i64 l] := by
  obtain ⟨A0, c0, rfl, -⟩ := h0
  obtain ⟨A1, c1, rfl, -⟩ := h1
  unfold fileV
  split
  · exact ⟨_, _, _, _, rfl⟩
  split <;> exact ⟨_, _, _, _, rfl⟩
theorem dnone_any (g r : Nat) (F : Nat → Prop) (d : DiskM) (w : World) (h : DiskAt w g r F d) :
    Calls Try.prog 45 #[ptr g] w fun e w' => e = .returned (.bool false) ∧ w = w' := by
  have c0 := h.1.cell 0
  simp at c0
  clear h
  go_enter Try.func45, Try.ntmps45
  go_wp2
  go_ret
  exact ⟨rfl, rfl⟩
def GrowPost (v : Value) (w : World) (e : Ending) (w' : World) : Prop := e = .returned v ∧ Same (fun _ => True) w w'
set_option maxRecDepth 100000 in
theorem dmay_any (g r : Nat) (F : Nat → Prop) (d : DiskM) (f : Int) (w : World) (h : DiskAt w g r F d) :
    Calls Try.prog 34 #[ptr g, .int .i64 f] w (GrowPost (.int .i64 (d.may f)) w) := by
  have hn := dnone_any g r F d w h
  have c0 := h.1.cell 0
  have c2 := h.1.cell 2
  simp at c0 c2
  obtain ⟨-, -, -, -, -, sw, v0, v1, k0, k1, clock, hb, -, -, -, hy0, hy1⟩ := h
  have hl := look_files hb f true
  simp only [if_true] at hl
  obtain ⟨A, n, c, l, hv⟩ := fileV_form f d.f0.last d.f1.last hy0 hy1
  rw [hv] at hl
  clear hv hb
  unfold DiskM.may
  generalize d.off = off at *
  cases off
  · by_cases hf : f = 0 ∨ f = 1
    · rw [show (f == 0 || f == 1) = true by simpa using hf] at hl
      simp only [hf, if_true, Bool.false_eq_true, if_false]
      clear hf
      go_enter Try.func34, Try.ntmps34
      go_wp2_with (go_at_call 45; refine hn.mono ?_; rintro e w' ⟨rfl, rfl⟩)
      go_ret
      exact ⟨rfl, (Same.refl _ _).alloc _⟩
    · rw [show (f == 0 || f == 1) = false by simpa using hf] at hl
      simp only [hf, Bool.false_eq_true, if_false]
      clear hf
      go_enter Try.func34, Try.ntmps34
      go_wp2_with (go_at_call 45; refine hn.mono ?_; rintro e w' ⟨rfl, rfl⟩)
      go_ret
      exact ⟨rfl, (Same.refl _ _).alloc _⟩
  · go_enter Try.func34, Try.ntmps34
    go_wp2_with (go_at_call 45; refine hn.mono ?_; rintro e w' ⟨rfl, rfl⟩)
    go_ret
    exact ⟨rfl, Same.refl _ _⟩
/-- A store into the map of files, at the operation. -/
theorem wpList_put {w : World} {ops : Array Oper} {rest : List Oper} {o : Oper} {a : Act} {Q : Exit → Act → World → Prop} (hgd : o.guard = none) (m x v : Operand)
    (hop : o.op = Op.mapUpdate 72 m x v) (r : Nat) (f : Int) (v' : Value) (l : Nat) (hm : a.eval m = .map (some r)) (hx : a.eval x = .int .i64 f) (hv : a.eval v = .agg #[v', .int .i64 l])
    {sw : Bool} {v0 v1 : Value} {l0 l1 k0 k1 clock : Nat} (hb : w.heap[r]? = some (mapOf sw v0 v1 l0 l1 k0 k1 clock)) (hf : f = 0 ∨ f = 1)
    (hK : wpList Try.prog ops Q rest (a.put o.dst undef) (setBlock w r (mapOf sw (if f = 0 then v' else v0) (if f = 0 then v1 else v') (if f = 0 then l else l0) (if f = 0 then l1 else l) k0 k1 clock))) :
    wpList Try.prog ops Q (o :: rest) a w := by
  refine wpList_plain hgd fun K' hK' => ?_
  unfold Oper.wp
  simp [execOp, hop, hm, hx, hv, store_files hb f hf, Result.andThen]
  exact hK' _ _ hK
def DPost (g r : Nat) (F : Nat → Prop) (w : World) (x : Int) (d' : DiskM) (e : Ending) (w' : World) : Prop :=
  e = .returned (.int .i64 x) ∧ DiskAt w' g r F d' ∧ Same (fun k => k ≠ g ∧ k ≠ r) w w'
theorem same_setBlock (w : World) (r : Nat) (o : Obj) : Same (fun k => k ≠ r) w (setBlock w r o) :=
  ⟨rfl, rfl, rfl, by simp [setBlock], fun i hi hs => by simp [setBlock, Array.getElem?_setIfInBounds, Ne.symm hs]⟩
theorem heap_setBlock {w : World} {r : Nat} (o : Obj) (h : r < w.heap.size) : (setBlock w r o).heap[r]? = some o := by
  simp [setBlock, Array.getElem?_setIfInBounds, h]
theorem DiskAt.stored {w W1 : World} {g r : Nat} {F : Nat → Prop} {d : DiskM} {f : Int} {A : Option Addr} {n c : Nat} {x : FileM} {sw : Bool} {v0 v1 : Value} {k0 k1 clock : Nat} {a' : Int}
    (H : DiskAt w g r F d) (hy : k0 < clock ∧ k1 < clock ∧ k0 ≠ k1 ∧ By w F v0 d.f0.b ∧ By w F v1 d.f1.b)
    (e0 : Row W1 g 74 [.map (some r), .int .i64 a', .bool d.off, .int .i64 d.lives, .int .i64 d.steps]) (hS : Same (fun k => k ≠ g) w W1) (hx : By w F (.slice A n c) x.b) (hf : f = 0 ∨ f = 1) (u : Value) (hu : u = .int .i64 ((d.steps + 1 : Nat) : Int)) :
    DiskAt ((setBlock W1.drew r (mapOf sw (if f = 0 then .slice A n c else v0) (if f = 0 then v1 else .slice A n c) (if f = 0 then x.last else d.f0.last) (if f = 0 then d.f1.last else x.last) k0 k1 clock)).setCell ⟨g, 4, none⟩ u) g r F
      { d.put f x with armed := a', steps := d.steps + 1 } ∧
    Same (fun k => k ≠ g ∧ k ≠ r) w ((setBlock W1.drew r (mapOf sw (if f = 0 then .slice A n c else v0) (if f = 0 then v1 else .slice A n c) (if f = 0 then x.last else d.f0.last) (if f = 0 then d.f1.last else x.last) k0 k1 clock)).setCell ⟨g, 4, none⟩ u) := by
  subst hu
  obtain ⟨hk0, hk1, hk, hy0, hy1⟩ := hy
  obtain ⟨-, hg, hr, hgr, hF, -⟩ := H
  have hz := hS.size
  have hS2 : Same (fun k => k ≠ g ∧ k ≠ r) w ((setBlock W1.drew r (mapOf sw (if f = 0 then .slice A n c else v0) (if f = 0 then v1 else .slice A n c) (if f = 0 then x.last else d.f0.last) (if f = 0 then d.f1.last else x.last) k0 k1 clock)).setCell ⟨g, 4, none⟩ (.int .i64 ((d.steps + 1 : Nat) : Int))) :=
    ((hS.mono fun k _ h => h.1).drew.trans ((same_setBlock _ _ _).mono fun k _ h => h.2)).setCell (fun _ h => h.1 rfl) _
  have hFS : ∀ k, k < w.heap.size → F k → k ≠ g ∧ k ≠ r := fun k _ h => (hF k h).2
  have hx' := hx.keep (hS2.mono hFS)
  have hy0' := hy0.keep (hS2.mono hFS)
  have hy1' := hy1.keep (hS2.mono hFS)
  have hz2 := hS2.size
  have e1 : Row (setBlock W1.drew r (mapOf sw (if f = 0 then .slice A n c else v0) (if f = 0 then v1 else .slice A n c) (if f = 0 then x.last else d.f0.last) (if f = 0 then d.f1.last else x.last) k0 k1 clock)) g 74 [.map (some r), .int .i64 a', .bool d.off, .int .i64 d.lives, .int .i64 d.steps] :=
    Row.keep (w := W1.drew) e0 (same_setBlock _ _ _) hgr
  refine ⟨⟨?_, by omega, by omega, hgr, fun k hk => ⟨by have := (hF k hk).1; omega, (hF k hk).2⟩, sw, if f = 0 then .slice A n c else v0, if f = 0 then v1 else .slice A n c, k0, k1, clock, ?_, hk0, hk1, hk, ?_, ?_⟩, hS2⟩
  · have := e1.set_ 4 (.int .i64 ((d.steps + 1 : Nat) : Int))
    rcases hf with rfl | rfl <;> simpa [DiskM.put] using this
  · rw [((Same.refl (fun k => k = r) _).setCell (p := ⟨g, 4, none⟩) (fun _ h => hgr h) _).block r (by simp [setBlock]; omega) rfl, heap_setBlock _ (by show r < W1.heap.size; omega)]
    rcases hf with rfl | rfl <;> simp [DiskM.put]
  · rcases hf with rfl | rfl
    · simpa [DiskM.put] using hx'
    · simpa [DiskM.put] using hy0'
  · rcases hf with rfl | rfl
    · simpa [DiskM.put] using hy1'
    · simpa [DiskM.put] using hx'
set_option maxRecDepth 100000 in
theorem dstep_any (g r : Nat) (F : Nat → Prop) (d : DiskM) (f : Int) (A : Option Addr) (n c : Nat) (x : FileM) (w : World) (h : DiskAt w g r F d) (hf : f = 0 ∨ f = 1) (hx : By w F (.slice A n c) x.b)
    (ha : -1 ≤ d.armed ∧ d.armed ≤ 9223372036854775807) (hs : d.steps < 1000000) :
    Calls Try.prog 35 #[ptr g, .int .i64 f, .agg #[.slice A n c, .int .i64 x.last]] w (DPost g r F w (d.step f x).1 (d.step f x).2) := by
  have c0 := h.1.cell 0
  have c1 := h.1.cell 1
  have c2 := h.1.cell 2
  have c4 := h.1.cell 4
  simp at c0 c1 c2 c4
  have z1 := h.1.frozen 1
  have z2 := h.1.frozen 2
  have z4 := h.1.frozen 4
  have hlt := h.2.1
  have hlt2 := h.2.2.1
  have hgr := h.2.2.2.1
  have Hx := Lib.hid hx
  have H := Lib.hid h
  obtain ⟨-, -, -, -, -, sw, v0, v1, k0, k1, clock, hb, hk0, hk1, hk, hy0, hy1⟩ := h
  have HY := Lib.hid (And.intro hk0 (And.intro hk1 (And.intro hk (And.intro hy0 hy1))))
  clear hk0 hk1 hk hy0 hy1
  clear hx
  by_cases h0 : d.armed = 0
  · rw [h0] at c1
    go_enter Try.func35, Try.ntmps35
    go_wp2
    go_ret
    have hst := (H.out.1.set_ 2 (.bool true)).keep ((Same.refl (fun _ => True) _).alloc (.cells #[.slice A n c, .int .i64 x.last] 71)) trivial
    have hS : Same (fun k => k ≠ g) w ((w.setCell ⟨g, 2, none⟩ (.bool true)).alloc (.cells #[.slice A n c, .int .i64 x.last] 71)) := ((Same.refl _ _).setCell (fun _ h => h rfl) _).alloc _
    refine ⟨by simp [DiskM.step, h0], ?_, hS.mono fun k _ h => h.1⟩
    obtain ⟨-, h2, h3, h4, hF, -⟩ := H.out
    have hz := hS.size
    obtain ⟨hk0, hk1, hk, hy0, hy1⟩ := HY.out
    have hFS : ∀ k, k < w.heap.size → F k → k ≠ g := fun k _ h => (hF k h).2.1
    exact ⟨by simpa [DiskM.step, h0] using hst, by omega, by omega, h4, fun k hk => ⟨by have := (hF k hk).1; omega, (hF k hk).2⟩, sw, v0, v1, k0, k1, clock,
      by simpa [DiskM.step, h0] using (hS.block r h3 (Ne.symm h4)).trans hb, hk0, hk1, hk, by simpa [DiskM.step, h0] using hy0.keep (hS.mono hFS), by simpa [DiskM.step, h0] using hy1.keep (hS.mono hFS)⟩
  · by_cases h1 : 0 < d.armed
    · go_enter Try.func35, Try.ntmps35
      go_wp2
      generalize hW : World.alloc _ _ = W1
      have e0 := hW ▸ ((H.out.1.set_ 1 (.int .i64 (d.armed - 1))).keep ((Same.refl (fun _ => True) _).alloc (.cells #[.slice A n c, .int .i64 x.last] 71)) trivial)
      have e1 := hW ▸ Row.new (w.setCell ⟨g, 1, none⟩ (.int .i64 (d.armed - 1))) 71 [.slice A n c, .int .i64 x.last]
      rw [World.size_setCell] at e1
      have hS : Same (fun k => k ≠ g) w W1 := hW ▸ ((Same.refl _ _).setCell (fun _ h => h rfl) _).alloc _
      clear hW
      have q0 := e0.cell 0
      have b0 := e1.cell 0
      have b1 := e1.cell 1
      simp at q0 b0 b1
      have hb1 := (hS.block r hlt2 (Ne.symm hgr)).trans hb
      have hg1 := hS.size
      go_still_tail 6, (by kernel_rfl)
      refine wpList_put (w := W1.drew) rfl (.tmp 30) (.tmp 31) (.tmp 32) rfl r f (.slice A n c) x.last rfl rfl rfl hb1 hf ?_
      have hfin := fun u hu => DiskAt.stored (sw := sw) H.out HY.out e0 hS Hx.out hf u hu
      generalize hW2 : setBlock _ _ _ = W2 at hfin ⊢
      have e2 : Row W2 g _ _ := hW2 ▸ Row.keep (w := W1.drew) e0 (same_setBlock _ _ _) hgr
      have p4 := e2.cell 4
      have y4 := e2.frozen 4
      simp at p4
      clear hW2 e2 e0 e1 b0 b1 hb1
      go_wp2
      go_ret
      have hfin' := hfin _ rfl
      refine ⟨?_, ?_, ?_⟩
      · simp [DiskM.step, h0]
      · simpa [DiskM.step, h0, h1] using hfin'.1
      · exact hfin'.2
    · go_enter Try.func35, Try.ntmps35
      go_wp2
      generalize hW : World.alloc _ _ = W1
      have e0 := hW ▸ (H.out.1.keep ((Same.refl (fun _ => True) _).alloc (.cells #[.slice A n c, .int .i64 x.last] 71)) trivial)
      have e1 := hW ▸ Row.new w 71 [.slice A n c, .int .i64 x.last]
      have hS : Same (fun k => k ≠ g) w W1 := hW ▸ (Same.refl _ _).alloc _
      clear hW
      have q0 := e0.cell 0
      have b0 := e1.cell 0
      have b1 := e1.cell 1
      simp at q0 b0 b1
      have hb1 := (hS.block r hlt2 (Ne.symm hgr)).trans hb
      have hg1 := hS.size
      go_still_tail 6, (by kernel_rfl)
      refine wpList_put (w := W1.drew) rfl (.tmp 30) (.tmp 31) (.tmp 32) rfl r f (.slice A n c) x.last rfl rfl rfl hb1 hf ?_
      have hfin := fun u hu => DiskAt.stored (sw := sw) H.out HY.out e0 hS Hx.out hf u hu
      generalize hW2 : setBlock _ _ _ = W2 at hfin ⊢
      have e2 : Row W2 g _ _ := hW2 ▸ Row.keep (w := W1.drew) e0 (same_setBlock _ _ _) hgr
      have p4 := e2.cell 4
      have y4 := e2.frozen 4
      simp at p4
      clear hW2 e2 e0 e1 q0 b0 b1 hb1
      go_wp2
      go_ret
      have hfin' := hfin _ rfl
      refine ⟨?_, ?_, ?_⟩
      · simp [DiskM.step, h0]
      · have e : (if 0 < d.armed then d.armed - 1 else d.armed) = d.armed := if_neg (by omega)
        simpa [DiskM.step, h0, e] using hfin'.1
      · exact hfin'.2
end Go.Proofs.Ytpjinngngbifoaa
