/-
  The walk of the disk's Copy: another disk, alike, in memory of its own.
-/
import Derived.Test.YtlnkhkkekfjebaaDiskA
set_option linter.unusedSimpArgs false
set_option linter.unusedVariables false
namespace Go.Proofs.Ytlnkhkkekfjebaa
open Go.RowKit Go.ChangeMaps Go.MapKept

/-- The new map, under way. -/
def newMap (b0 b1 sw : Bool) (u0 u1 : Value) (l0 l1 : Nat) : Obj :=
  match b0, b1 with
  | true, true => mapOf sw u0 u1 l0 l1 (if sw then 1 else 0) (if sw then 0 else 1) 2
  | true, false => .map #[⟨.int .i64 0, .agg #[u0, .int .i64 l0], 0⟩] 1
  | false, true => .map #[⟨.int .i64 1, .agg #[u1, .int .i64 l1], 0⟩] 1
  | false, false => .map #[] 0
theorem newMap_ins {b0 b1 : Bool} {i : Nat} (hi : i < 2) (hb : (if i = 0 then b0 else b1) = false) (sw : Bool) (u0 u1 : Value) (l0 l1 : Nat) :
    ∃ es ck, newMap b0 b1 sw u0 u1 l0 l1 = .map es ck ∧ Instr.findNow (.int .i64) (.int .i64 (i : Int)) es.toList 0 = some none ∧
      ∀ v, ∃ sw', (.map (es.push ⟨.int .i64 (i : Int), .agg #[v, .int .i64 ((if i = 0 then l0 else l1 : Nat) : Int)], ck⟩) (ck + 1) : Obj) = newMap (b0 || i == 0) (b1 || i == 1) sw' (if i = 0 then v else u0) (if i = 0 then u1 else v) l0 l1 := by
  obtain rfl | rfl : i = 0 ∨ i = 1 := by omega
  · obtain rfl : b0 = false := hb
    cases b1
    · exact ⟨_, _, rfl, rfl, fun v => ⟨false, rfl⟩⟩
    · exact ⟨_, _, rfl, rfl, fun v => ⟨true, rfl⟩⟩
  · obtain rfl : b1 = false := hb
    cases b0
    · exact ⟨_, _, rfl, rfl, fun v => ⟨false, rfl⟩⟩
    · exact ⟨_, _, rfl, rfl, fun v => ⟨false, rfl⟩⟩
/-- A copy under way: the disk, the range, the new map and the new struct. -/
def CopIn (d : DiskM) (w wr : World) (B r : Nat) (F : Nat → Prop) (sw : Bool) (k0 k1 clock : Nat) (v0 v1 : Value) : Prop :=
  ∃ b0 b1 seen sw2 u0 u1, wr.heap[B + 1 + 1]? = some (.mapIter (some r) clock seen clock) ∧ seen.size = b0.toNat + b1.toNat ∧ seen.contains k0 = b0 ∧ seen.contains k1 = b1 ∧
    wr.heap[r]? = some (mapOf sw v0 v1 d.f0.last d.f1.last k0 k1 clock) ∧ By wr F v0 d.f0.b ∧ By wr F v1 d.f1.b ∧
    wr.heap[B + 1]? = some (newMap b0 b1 sw2 u0 u1 d.f0.last d.f1.last) ∧ (b0 = true → By wr (B + 3 ≤ ·) u0 d.f0.b) ∧ (b1 = true → By wr (B + 3 ≤ ·) u1 d.f1.b) ∧
    Row wr B 79 [.map (some (B + 1)), .int .i64 d.armed, .bool d.off, .int .i64 d.lives, .int .i64 d.steps] ∧ Same (fun _ => True) w wr
theorem CopIn.step {d : DiskM} {w wr W6 : World} {B r : Nat} {F : Nat → Prop} {sw : Bool} {k0 k1 clock : Nat} {v0 v1 : Value} {b0 b1 : Bool} {seen : Array Nat} {u0 u1 v : Value} {i : Nat} {es : Array MapEntry} {ck : Nat}
    (hi : i < 2) (hbi : (if i = 0 then b0 else b1) = false) (hit : wr.heap[B + 1 + 1]? = some (.mapIter (some r) clock seen clock)) (hss : seen.size = b0.toNat + b1.toNat) (hs0 : seen.contains k0 = b0) (hs1 : seen.contains k1 = b1) (hk : k0 ≠ k1)
    (hb : wr.heap[r]? = some (mapOf sw v0 v1 d.f0.last d.f1.last k0 k1 clock)) (hy0 : By wr F v0 d.f0.b) (hy1 : By wr F v1 d.f1.b) (hu0 : b0 = true → By wr (B + 3 ≤ ·) u0 d.f0.b) (hu1 : b1 = true → By wr (B + 3 ≤ ·) u1 d.f1.b)
    (hrow : Row wr B 79 [.map (some (B + 1)), .int .i64 d.armed, .bool d.off, .int .i64 d.lives, .int .i64 d.steps]) (hsm : Same (fun _ => True) w wr) (hBw : w.heap.size = B) (hr : r < B) (hF : ∀ k, F k → k < B)
    (hT : Same (fun k => k ≠ B + 1 + 1 ∧ k ≠ B + 1 ∧ k < wr.heap.size) wr W6) (hit6 : W6.heap[B + 1 + 1]? = some (.mapIter (some r) clock (seen.push (if i = 0 then k0 else k1)) clock))
    (hnew : W6.heap[B + 1]? = some (.map (es.push ⟨.int .i64 (i : Int), .agg #[v, .int .i64 ((d.file i).last : Nat)], ck⟩) (ck + 1)))
    (hins : ∀ v, ∃ sw', (.map (es.push ⟨.int .i64 (i : Int), .agg #[v, .int .i64 ((if i = 0 then d.f0.last else d.f1.last : Nat) : Int)], ck⟩) (ck + 1) : Obj) = newMap (b0 || i == 0) (b1 || i == 1) sw' (if i = 0 then v else u0) (if i = 0 then u1 else v) d.f0.last d.f1.last)
    (hv : By W6 (B + 3 ≤ ·) v (d.file i).b) : CopIn d w W6 B r F sw k0 k1 clock v0 v1 ∧ leftIn W6 (B + 1 + 1) < leftIn wr (B + 1 + 1) := by
  have hz := hsm.size
  have hzr := Row.lt hrow
  have hzn : B + 1 + 1 < wr.heap.size := (Array.getElem?_eq_some_iff.1 hit).1
  obtain ⟨sw', he⟩ := hins v
  have hl : (if i = 0 then d.f0.last else d.f1.last) = (d.file i).last := by
    obtain rfl | rfl : i = 0 ∨ i = 1 := by omega
    · rfl
    · rfl
  rw [hl] at he
  rw [he] at hnew
  have hlen : leftIn W6 (B + 1 + 1) < leftIn wr (B + 1 + 1) := by
    unfold leftIn
    rw [hit6, hit]
    simp only [Array.size_push]
    have : seen.size < 2 := by
      rw [hss]
      split at hbi <;> simp_all <;> (cases b0 <;> cases b1 <;> simp_all)
    omega
  refine ⟨?_, hlen⟩
  have kF : ∀ k, k < wr.heap.size → F k → k ≠ B + 1 + 1 ∧ k ≠ B + 1 ∧ k < wr.heap.size := fun k hk h => by have := hF k h; omega
  have kU : ∀ k, k < wr.heap.size → B + 3 ≤ k → k ≠ B + 1 + 1 ∧ k ≠ B + 1 ∧ k < wr.heap.size := fun k hk h => by omega
  have hsm6 : Same (fun _ => True) w W6 := hsm.trans' hT (fun k hk _ => by omega)
  have hb6 := (hT.block r (by omega) ⟨by omega, by omega, by omega⟩).trans hb
  have hrow6 := hrow.keep hT ⟨by omega, by omega, by omega⟩
  have hy0' := hy0.keep (hT.mono kF)
  have hy1' := hy1.keep (hT.mono kF)
  obtain rfl | rfl : i = 0 ∨ i = 1 := by omega
  · have hb : b0 = false := hbi
    subst hb
    refine ⟨true, b1, _, sw', v, u1, hit6, ?_, ?_, ?_, hb6, hy0', hy1', by simpa using hnew, fun _ => hv, fun h => (hu1 h).keep (hT.mono kU), hrow6, hsm6⟩
    · simp [hss]; omega
    · simp
    · simp [hk.symm, ← hs1]
  · have hb : b1 = false := hbi
    subst hb
    refine ⟨b0, true, _, sw', u0, v, hit6, ?_, ?_, ?_, hb6, hy0', hy1', by simpa using hnew, fun h => (hu0 h).keep (hT.mono kU), fun _ => hv, hrow6, hsm6⟩
    · simp [hss]
    · simp [hk, ← hs0]
    · simp
def CopyPost (w : World) (d : DiskM) (e : Ending) (w' : World) : Prop :=
  ∃ g r F, e = .returned (ptr g) ∧ w.heap.size ≤ g ∧ w.heap.size ≤ r ∧ (∀ k, F k → w.heap.size ≤ k) ∧ DiskAt w' g r F d ∧ Same (fun _ => True) w w'
set_option maxRecDepth 100000 in
theorem dcopy_any (g r : Nat) (F : Nat → Prop) (d : DiskM) (w : World) (h : DiskAt w g r F d) (hlen : d.f0.b.length ≤ 4194304 ∧ d.f1.b.length ≤ 4194304) :
    Calls Try.prog 62 #[ptr g] w (CopyPost w d) := by
  have hn := dnone_any g r F d w h
  have hmm := @run_makeMap Try.prog
  have c0 := h.1.cell 0
  have c1 := h.1.cell 1
  have c2 := h.1.cell 2
  have c3 := h.1.cell 3
  have c4 := h.1.cell 4
  simp at c0 c1 c2 c3 c4
  have H := Lib.hid h
  have hlt1 := h.2.1
  have hlt2 := h.2.2.1
  have hgr := h.2.2.2.1
  have HF := Lib.hid h.2.2.2.2.1
  obtain ⟨-, -, -, -, -, sw, v0, v1, k0, k1, clock, hb, hk0, hk1, hk, hy0, hy1⟩ := h
  obtain ⟨es, he⟩ : ∃ es, mapOf sw v0 v1 d.f0.last d.f1.last k0 k1 clock = .map es clock := by cases sw <;> exact ⟨_, rfl⟩
  have HK := Lib.hid (show k0 < clock ∧ k1 < clock ∧ k0 ≠ k1 from ⟨hk0, hk1, hk⟩)
  obtain ⟨W1, hW1⟩ : ∃ W1, W1 = (w.alloc (.cells #[.map (some (w.heap.size + 1)), .int .i64 d.armed, .bool d.off, .int .i64 d.lives, .int .i64 d.steps] 79)).alloc (.map #[] 0) := ⟨_, rfl⟩
  have hS1 : Same (fun _ => True) w W1 := by rw [hW1]; exact ((Same.refl _ _).alloc _).alloc _
  have hz1 : W1.heap.size = w.heap.size + 2 := by rw [hW1]; simp
  have hb1 : W1.heap[r]? = some (mapOf sw v0 v1 d.f0.last d.f1.last k0 k1 clock) := (hS1.block r hlt2 trivial).trans hb
  have hrg := run_range_map (P := Try.prog) W1 77 3 109 r es clock Try.underlying77 (by rw [← he]; exact hb1)
  have h0 := Lib.hid (show CopIn d w (W1.alloc (.mapIter (some r) clock #[] clock)) w.heap.size r F sw k0 k1 clock v0 v1 from
    ⟨false, false, #[], false, undef, undef, heap_now hz1.symm, rfl, by simp, by simp, heap_old hb1, (hy0.keepAll hS1).keepAll ((Same.refl _ _).alloc _), (hy1.keepAll hS1).keepAll ((Same.refl _ _).alloc _),
      heap_old (by rw [hW1]; exact heap_now (by simp)), fun h => by simp at h, fun h => by simp at h, Row.keep (S := fun _ => True) (by rw [hW1]; exact (Row.new w _ _).keep (S := fun _ => True) ((Same.refl _ _).alloc _) trivial) ((Same.refl _ _).alloc _) trivial, hS1.alloc _⟩)
  rw [hW1] at hrg h0
  clear hb hk0 hk1 hk hy0 hy1 he hb1 hS1 hW1 hz1
  go_enter Try.func62, Try.ntmps62
  go_wp2_with (go_at_call 82; refine hn.mono ?_; rintro e w1 ⟨rfl, rfl⟩)
  go_loopw [18] (fun _ wr => CopIn d w wr w.heap.size r F sw k0 k1 clock v0 v1) (fun _ wr => leftIn wr (w.heap.size + 1 + 1))
  case atStart => exact h0.out
  case round =>
    clear h0 hrg hmm
    have hrel' := hrel
    obtain ⟨b0, b1, seen, sw2, u0, u1, hit, hss, hs0, hs1, hb, hy0, hy1, hnm, hu0, hu1, hrow, hsm⟩ := hrel'
    have hir : w.heap.size + 1 + 1 ≠ r := by omega
    have HY := Lib.hid (And.intro hss (And.intro hs0 (And.intro hs1 (And.intro hy0 (And.intro hy1 (And.intro hnm (And.intro hu0 (And.intro hu1 (And.intro hrow hsm)))))))))
    clear hss hy0 hy1 hnm hu0 hu1 hrow hsm hrel
    go_wp2_with (at_next; refine wpList_next_files rfl _ rfl rfl hir hit hb HK.out hs0 hs1 ?_ ?_)
    · intro e0 e1
      subst e0 e1
      obtain ⟨hss, hs0, hs1, hy0, hy1, hnm, hu0, hu1, hrow, hsm⟩ := HY.out
      have hz := Row.lt hrow
      have hz1 : w.heap.size + 1 < wr.heap.size := (Array.getElem?_eq_some_iff.1 hnm).1
      have hfin : DiskAt wr w.heap.size (w.heap.size + 1) (fun k => w.heap.size + 3 ≤ k ∧ k < wr.heap.size) d :=
        ⟨hrow, by omega, by omega, by omega, fun k hk => by omega, sw2, u0, u1, (if sw2 then 1 else 0), (if sw2 then 0 else 1), 2, hnm, by split <;> omega, by split <;> omega, by split <;> omega,
          (hu0 rfl).mono fun k hk hk2 => ⟨hk2, hk⟩, (hu1 rfl).mono fun k hk hk2 => ⟨hk2, hk⟩⟩
      have Hfin := Lib.hid (show CopyPost w d (.returned (ptr w.heap.size)) wr from ⟨_, _, _, rfl, Nat.le_refl _, by omega, fun k hk => by omega, hfin, hsm⟩)
      clear hfin hsm hrow hu0 hu1 hnm hy0 hy1 hb hit HY
      go_wp2
      go_ret
      exact Hfin.out
    · intro i hi hbi w2 hs2 hz2 hit2 hen
      obtain ⟨hss, hs0, hs1, hy0, hy1, hnm, hu0, hu1, hrow, hsm⟩ := HY.out
      have hbi : (if i = 0 then b0 else b1) = false := by split <;> simp_all
      obtain ⟨A2, c2', hval, hby, hc2⟩ := entry_form (d := d) (keep := []) (b0 := false) (b1 := false) hi (by split <;> rfl) hy0 hy1
      have hval : (if i = 0 then Value.agg #[v0, .int .i64 (d.f0.last : Nat)] else .agg #[v1, .int .i64 (d.f1.last : Nat)]) = .agg #[.slice A2 (d.file i).b.length c2', .int .i64 ((d.file i).last : Nat)] := hval
      rw [hval] at hen ⊢
      have hlenI : (d.file i).b.length ≤ 4194304 := by unfold DiskM.file; split <;> omega
      have HBY := Lib.hid hby
      have Hbi := Lib.hid hbi
      have Hit := Lib.hid hit
      have hwl : w.heap.size + 1 + 1 < wr.heap.size := (Array.getElem?_eq_some_iff.1 hit).1
      have HB := Lib.hid hb
      clear hss hy0 hy1 hnm hu0 hu1 hrow hsm hval hby hit hbi hb
      go_wp2_with (at_builtin; refine stopAt ?_)
      unfold Hid
      generalize hW3 : World.alloc (World.alloc _ _) _ = W3
      have hz2' : w2.heap.size = wr.heap.size := hz2
      have r1 : Row W3 wr.heap.size 109 [.slice A2 (d.file i).b.length c2', .int .i64 ((d.file i).last : Nat)] := by
        rw [← hW3, ← hz2']; exact (Row.new w2 _ _).keep (S := fun _ => True) ((Same.refl _ _).alloc _) trivial
      have r2 : Row W3 (wr.heap.size + 1) 5 [] := by rw [← hW3, ← hz2', show w2.heap.size + 1 = (w2.alloc (.cells #[.slice A2 (d.file i).b.length c2', .int .i64 ((d.file i).last : Nat)] 109)).heap.size by simp]; exact Row.new _ _ _
      have hS3 : Same (fun _ => True) w2 W3 := hW3 ▸ ((Same.refl _ _).alloc _).alloc _
      have hz3 : W3.heap.size = wr.heap.size + 2 := by rw [← hW3]; simp [hz2']
      clear hW3
      have hT3 : Same (fun k => k ≠ w.heap.size + 1 + 1) wr W3 := hs2.trans (hS3.mono fun _ _ _ => trivial)
      obtain ⟨A3, c3', e, -, hcm, hsl⟩ := HBY.out.keep (hT3.mono fun k _ hk => by have := (HF.out k hk).1; show k ≠ _; omega)
      injection e with e1 e2 e3
      subst e1
      have hown := r2.owns (base := wr.heap.size + 1) (size := 1) (n := 0) (cap := 0) (Nat.le_refl _) (by simp) (Nat.le_refl _) (by simp [maxLen])
      refine wpList_app T8 _ rfl (.tmp 23) (.tmp 25) rfl (wr.heap.size + 1) _ 0 _ rfl hown F A2 (d.file i).b.length c2' (cs8 (d.file i).b) rfl hsl (oneCell8 _) (by simp only [maxLen]; omega) (by omega) (by omega) ?_
      intro v' w4 hown4 hs4 _
      have hown4 : w4.ownsRow (wr.heap.size + 1) 5 1 v' (d.file i).b.length (cs8 (d.file i).b) := by simpa using hown4
      have hs4 : Same (fun k => k ≠ wr.heap.size + 1) W3 w4 := hs4.mono fun k _ hk e => hk (by injection e)
      have hv' := own_by hown4
      obtain ⟨A5, c5, rfl, -⟩ := id hv'
      have hT4 : Same (fun k => k ≠ w.heap.size + 1 + 1 ∧ k < wr.heap.size) wr w4 := (hT3.mono fun k _ hk => hk.1).trans (hs4.mono fun k _ hk => by have := hk.2; show k ≠ _; omega)
      have r4 := r1.keep hs4 (by show wr.heap.size ≠ _; omega)
      have r5 := r4.set_ 0 (.slice A5 (d.file i).b.length c5)
      have hs5 : Same (fun k => k ≠ wr.heap.size) w4 (w4.setCell ⟨wr.heap.size, 0, none⟩ (.slice A5 (d.file i).b.length c5)) := (Same.refl _ _).setCell (fun _ h => h rfl) _
      obtain ⟨hss, hs0, hs1, hy0, hy1, hnm, hu0, hu1, hrow, hsm⟩ := HY.out
      have hb4 := hrow.keep hT4 ⟨by omega, by omega⟩
      have q0 := (hb4.keep hs5 (by show w.heap.size ≠ _; omega)).cell 0
      have p0 := r5.cell 0
      have p1 := r5.cell 1
      have z0 := r4.frozen 0
      have z1 := (hb4.keep hs5 (by show w.heap.size ≠ _; omega)).frozen 0
      have y0 := r4.cell 0
      simp at q0 p0 p1 y0
      clear hss hs0 hs1 hy0 hy1 hnm hu0 hu1 hrow hsm hown hown4 hsl r1 r2 hs2
      go_wp2_with (at_mapUpdate; refine stopAt ?_)
      unfold Hid
      obtain ⟨hss, hs0, hs1, hy0, hy1, hnm, hu0, hu1, hrow, hsm⟩ := HY.out
      obtain ⟨es2, ck, hnmE, hfind, hins⟩ := newMap_ins hi Hbi.out sw2 u0 u1 d.f0.last d.f1.last
      have hn4 := (hT4.block (w.heap.size + 1) (by omega) ⟨by omega, by omega⟩).trans hnm
      rw [hnmE] at hn4
      generalize hW5 : w4.setCell _ _ = W5 at *
      have hn5 := (hs5.block (w.heap.size + 1) (Array.getElem?_eq_some_iff.1 hn4).1 (by show w.heap.size + 1 ≠ _; omega)).trans hn4
      refine wpList_ins rfl (.tmp 29) (.tmp 30) (.tmp 31) (.inr rfl) (w.heap.size + 1) i (.agg #[.slice A5 (d.file i).b.length c5, .int .i64 ((d.file i).last : Nat)]) rfl rfl rfl hn5 hfind ?_
      have hz4 := hT4.size
      have hz5 := hs5.size
      have hW6n := heap_setBlock (w := W5) (.map (es2.push ⟨.int .i64 (i : Int), .agg #[.slice A5 (d.file i).b.length c5, .int .i64 ((d.file i).last : Nat)], ck⟩) (ck + 1)) (r := w.heap.size + 1) (by omega)
      have hs6 := same_setBlock W5 (w.heap.size + 1) (.map (es2.push ⟨.int .i64 (i : Int), .agg #[.slice A5 (d.file i).b.length c5, .int .i64 ((d.file i).last : Nat)], ck⟩) (ck + 1))
      generalize setBlock _ _ _ = W6 at hW6n hs6 ⊢
      have hT45 : Same (fun k => k ≠ w.heap.size + 1 + 1 ∧ k < wr.heap.size) wr W5 := hT4.trans (hs5.mono fun k _ hk => by have := hk.2; show k ≠ _; omega)
      have hT6 : Same (fun k => k ≠ w.heap.size + 1 + 1 ∧ k ≠ w.heap.size + 1 ∧ k < wr.heap.size) wr W6 := (hT45.mono fun k _ hk => ⟨hk.1, hk.2.2⟩).trans (hs6.mono fun k _ hk => hk.2.1)
      have hit3 := (hS3.block (w.heap.size + 1 + 1) (by omega) trivial).trans hit2
      have hit4 := (hs4.block (w.heap.size + 1 + 1) (by omega) (by show w.heap.size + 1 + 1 ≠ _; omega)).trans hit3
      have hz34 := hs4.size
      have hit5 := (hs5.block (w.heap.size + 1 + 1) (by omega) (by show w.heap.size + 1 + 1 ≠ _; omega)).trans hit4
      have hit6 := (hs6.block (w.heap.size + 1 + 1) (by omega) (by show w.heap.size + 1 + 1 ≠ _; omega)).trans hit5
      have hv6 : By W6 (w.heap.size + 3 ≤ ·) (.slice A5 (d.file i).b.length c5) (d.file i).b := ((hv'.keep (hs5.mono fun k _ hk => by have hk : wr.heap.size + 1 ≤ k := hk; show k ≠ _; omega)).keep (hs6.mono fun k _ hk => by have hk : wr.heap.size + 1 ≤ k := hk; show k ≠ _; omega)).mono fun k _ hk => by have hk : wr.heap.size + 1 ≤ k := hk; show _ ≤ k; omega
      have hst := CopIn.step hi Hbi.out Hit.out hss hs0 hs1 HK.out.2.2 HB.out hy0 hy1 hu0 hu1 hrow hsm rfl hlt2 (fun k hk => (HF.out k hk).1) hT6 hit6 hW6n hins hv6
      clear hv6 hit3 hit4 hit5 hit6 hT6 hT45 hs6 hW6n hn5 hn4 hss hs0 hs1 hy0 hy1 hnm hu0 hu1 hrow hsm hs5 hT4 hT3 hS3 r4 r5 hv' hb4 hs4 hit2 hen
      go_wp2
      go_roundw
      case rel => first | exact hst.1 | ((repeat apply Exists.intro); exact ⟨hst.1, rfl⟩)
      case measure => exact hst.2
end Go.Proofs.Ytlnkhkkekfjebaa
