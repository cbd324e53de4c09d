/-
  Words, plain models, laws and walks that the claims of this layer share (joined by shake.py). No condition.
-/
import Derived.Maps.RangeWalk
import Derived.Lib.MinMax
import Derived.Lib.SlBytesConst
import Derived.Test.YtpjinngngbifoaaU1
import Derived.Test.YtpjinngngbifoaaU2
import Derived.Test.YtpjinngngbifoaaU3
import Derived.Test.YtpjinngngbifoaaU4
set_option linter.unusedSimpArgs false
set_option linter.unusedVariables false
namespace Go.Proofs.Ytpjinngngbifoaa
open Go.RowKit Go.ChangeMaps Go.MapKept
/-- What of the two entries a range has still to hand out. -/
theorem left_files {sw : Bool} {v0 v1 : Value} {l0 l1 k0 k1 clock : Nat} {seen : Array Nat} {b0 b1 : Bool} {es : Array MapEntry} (he : mapOf sw v0 v1 l0 l1 k0 k1 clock = .map es clock) (h0 : seen.contains k0 = b0) (h1 : seen.contains k1 = b1) :
    ((leftOf es seen).size = 0 → b0 = true ∧ b1 = true) ∧
    (∀ e ∈ (leftOf es seen).toList, ∃ i : Nat, i < 2 ∧ (if i = 0 then b0 else b1) = false ∧ e = ⟨.int .i64 (i : Int), if i = 0 then .agg #[v0, .int .i64 l0] else .agg #[v1, .int .i64 l1], if i = 0 then k0 else k1⟩) ∧
    (∀ e ∈ es.toList, e.born = k0 ∨ e.born = k1) ∧ es.toList.map (·.born) = (if sw then [k1, k0] else [k0, k1]) := by
  cases sw <;> simp only [mapOf, Bool.false_eq_true, if_false, if_true, Obj.map.injEq, and_true] at he <;> subst he
  · refine ⟨?_, ?_, by simp, by simp⟩
    · intro h
      simp only [leftOf, Array.size_eq_zero_iff, Array.filter_eq_empty_iff] at h
      exact ⟨by have := h _ (show (⟨.int .i64 0, .agg #[v0, .int .i64 l0], k0⟩ : MapEntry) ∈ #[_, _] by simp); simp_all, by have := h _ (show (⟨.int .i64 1, .agg #[v1, .int .i64 l1], k1⟩ : MapEntry) ∈ #[_, _] by simp); simp_all⟩
    · intro e he
      simp only [leftOf, Array.toList_filter, List.mem_filter, List.mem_cons, List.not_mem_nil, or_false] at he
      obtain ⟨rfl | rfl, h⟩ := he
      · exact ⟨0, by omega, by show b0 = false; rw [← h0]; simpa using h, rfl⟩
      · exact ⟨1, by omega, by show b1 = false; rw [← h1]; simpa using h, rfl⟩
  · refine ⟨?_, ?_, by simp [or_comm], by simp⟩
    · intro h
      simp only [leftOf, Array.size_eq_zero_iff, Array.filter_eq_empty_iff] at h
      exact ⟨by have := h _ (show (⟨.int .i64 0, .agg #[v0, .int .i64 l0], k0⟩ : MapEntry) ∈ #[_, _] by simp); simp_all, by have := h _ (show (⟨.int .i64 1, .agg #[v1, .int .i64 l1], k1⟩ : MapEntry) ∈ #[_, _] by simp); simp_all⟩
    · intro e he
      simp only [leftOf, Array.toList_filter, List.mem_filter, List.mem_cons, List.not_mem_nil, or_false] at he
      obtain ⟨rfl | rfl, h⟩ := he
      · exact ⟨1, by omega, by show b1 = false; rw [← h1]; simpa using h, rfl⟩
      · exact ⟨0, by omega, by show b0 = false; rw [← h0]; simpa using h, rfl⟩
/-- One step of a range over the map of files. -/
theorem wpList_next_files {w : World} {ops : Array Oper} {rest : List Oper} {o : Oper} {a : Act} {Q : Exit → Act → World → Prop} (hgd : o.guard = none) (x : Operand) (hop : o.op = Op.next x false)
    {it r : Nat} {sw : Bool} {v0 v1 : Value} {l0 l1 k0 k1 clock : Nat} {seen : Array Nat} {b0 b1 : Bool} (hx : a.eval x = .pointer (some ⟨it, 0, none⟩)) (hir : it ≠ r)
    (hit : w.heap[it]? = some (.mapIter (some r) clock seen clock)) (hb : w.heap[r]? = some (mapOf sw v0 v1 l0 l1 k0 k1 clock)) (hk : k0 < clock ∧ k1 < clock ∧ k0 ≠ k1) (h0 : seen.contains k0 = b0) (h1 : seen.contains k1 = b1)
    (hD : b0 = true → b1 = true → wpList Try.prog ops Q rest (a.put o.dst (.tuple #[.bool false])) w)
    (hM : ∀ i : Nat, i < 2 → (if i = 0 then b0 else b1) = false → ∀ w2, Same (fun k => k ≠ it) w w2 → w2.heap.size = w.heap.size → w2.heap[it]? = some (.mapIter (some r) clock (seen.push (if i = 0 then k0 else k1)) clock) →
      (Instr.entry (.pointer (some ⟨it, 0, none⟩))).run Try.prog w2 = .ok (.tuple #[.int .i64 (i : Int), if i = 0 then .agg #[v0, .int .i64 l0] else .agg #[v1, .int .i64 l1]]) w2 →
      wpList Try.prog ops Q rest (a.put o.dst (.tuple #[.bool true, .int .i64 (i : Int), if i = 0 then .agg #[v0, .int .i64 l0] else .agg #[v1, .int .i64 l1]])) w2) :
    wpList Try.prog ops Q (o :: rest) a w := by
  obtain ⟨es, he⟩ : ∃ es, mapOf sw v0 v1 l0 l1 k0 k1 clock = .map es clock := by cases sw <;> exact ⟨_, rfl⟩
  obtain ⟨hl0, hl1, hl2, hl3⟩ := left_files he h0 h1
  rw [he] at hb
  refine wpList_plain hgd fun K' hK' => ?_
  unfold Oper.wp
  rcases run_next_at (P := Try.prog) w o.type it r clock clock seen es clock hit hb (fun e h => by rcases hl2 e h with h | h <;> omega) (Nat.le_refl _) with ⟨hz, hrun⟩ | ⟨e, hm, w1, hw1, hrun⟩
  · simp [execOp, hop, hx, hrun, Result.andThen]
    exact hK' _ _ (hD (hl0 hz).1 (hl0 hz).2)
  · obtain ⟨i, hi, hbi, rfl⟩ := hl1 e hm
    have hw1' : w1.heap = w.heap := by rcases hw1 with rfl | rfl <;> rfl
    have hit1 : w1.heap[it]? = some (.mapIter (some r) clock seen clock) := by rw [hw1']; exact hit
    have hlt : it < w1.heap.size := by
      rcases Nat.lt_or_ge it w1.heap.size with h | h
      · exact h
      · rw [Array.getElem?_eq_none h] at hit1; cases hit1
    have hS : Same (fun k => k ≠ it) w (setBlock w1 it (.mapIter (some r) clock (seen.push (if i = 0 then k0 else k1)) clock)) := by
      have h1 : Same (fun k => k ≠ it) w w1 := by rcases hw1 with rfl | rfl; exact Same.refl _ _; exact (Same.refl _ _).drew
      exact h1.trans (same_setBlock _ _ _)
    have hnew := heap_setBlock (w := w1) (.mapIter (some r) clock (seen.push (if i = 0 then k0 else k1)) clock) hlt
    have hr1 : (setBlock w1 it (.mapIter (some r) clock (seen.push (if i = 0 then k0 else k1)) clock)).heap[r]? = some (.map es clock) := by
      have hrs : r < w.heap.size := by
        rcases Nat.lt_or_ge r w.heap.size with h | h
        · exact h
        · rw [Array.getElem?_eq_none h] at hb; cases hb
      exact (hS.block r hrs (Ne.symm hir)).trans hb
    have hen := run_entry_at (P := Try.prog) _ it r clock seen es clock ⟨.int .i64 (i : Int), if i = 0 then .agg #[v0, .int .i64 l0] else .agg #[v1, .int .i64 l1], if i = 0 then k0 else k1⟩ hnew hr1
      (by simp only [leftOf, Array.toList_filter, List.mem_filter] at hm; exact hm.1) (by rw [hl3]; have := hk.2.2; cases sw <;> simp [this, Ne.symm this])
    simp [execOp, hop, hx, hrun, Result.andThen]
    exact hK' _ _ (hM i hi hbi _ hS (by simp [setBlock, hw1']) hnew hen)
def cutIf (b : Bool) (keep : List Int) (i : Nat) (x : FileM) : FileM := if b then x.cut (keepN keep i x) else x
/-- The power, under way: what the map and the range hold. -/
def PowIn (d : DiskM) (keep : List Int) (w wr : World) (it r : Nat) (F : Nat → Prop) (sw : Bool) (k0 k1 clock : Nat) : Prop :=
  ∃ b0 b1 seen v0 v1, wr.heap[it]? = some (.mapIter (some r) clock seen clock) ∧ seen.size = b0.toNat + b1.toNat ∧ seen.contains k0 = b0 ∧ seen.contains k1 = b1 ∧
    wr.heap[r]? = some (mapOf sw v0 v1 (cutIf b0 keep 0 d.f0).last (cutIf b1 keep 1 d.f1).last k0 k1 clock) ∧ By wr F v0 (cutIf b0 keep 0 d.f0).b ∧ By wr F v1 (cutIf b1 keep 1 d.f1).b ∧ Same (fun k => k ≠ r) w wr
def leftIn (wr : World) (it : Nat) : Nat := match wr.heap[it]? with
  | some (.mapIter _ _ seen _) => 2 - seen.size
  | _ => 0
theorem entry_form {wr : World} {F : Nat → Prop} {u0 u1 : Value} {d : DiskM} {keep : List Int} {b0 b1 : Bool} {i : Nat} (hi : i < 2) (hbi : (if i = 0 then b0 else b1) = false) (hy0 : By wr F u0 (cutIf b0 keep 0 d.f0).b) (hy1 : By wr F u1 (cutIf b1 keep 1 d.f1).b) :
    ∃ A c, (if i = 0 then Value.agg #[u0, .int .i64 ((cutIf b0 keep 0 d.f0).last : Nat)] else .agg #[u1, .int .i64 ((cutIf b1 keep 1 d.f1).last : Nat)]) = .agg #[.slice A (d.file i).b.length c, .int .i64 ((d.file i).last : Nat)] ∧ By wr F (.slice A (d.file i).b.length c) (d.file i).b ∧ (d.file i).b.length ≤ c := by
  obtain ⟨A0, c0, rfl, z0⟩ := hy0
  obtain ⟨A1, c1, rfl, z1⟩ := hy1
  obtain rfl | rfl : i = 0 ∨ i = 1 := by omega
  · have hb : b0 = false := hbi
    subst hb
    exact ⟨A0, c0, rfl, ⟨A0, c0, rfl, z0⟩, z0.1⟩
  · have hb : b1 = false := hbi
    subst hb
    exact ⟨A1, c1, rfl, ⟨A1, c1, rfl, z1⟩, z1.1⟩
/-- Only the struct's own cells have turned. -/
theorem DiskAt.struct {w w' : World} {g r : Nat} {F : Nat → Prop} {d d' : DiskM} (h : DiskAt w g r F d) (hS : Same (fun k => k ≠ g) w w')
    (e : Row w' g 74 [.map (some r), .int .i64 d'.armed, .bool d'.off, .int .i64 d'.lives, .int .i64 d'.steps]) (h0 : d'.f0 = d.f0) (h1 : d'.f1 = d.f1) : DiskAt w' g r F d' := by
  obtain ⟨-, h2, h3, h4, hF, sw, v0, v1, k0, k1, c, h5, h6, h7, h8, h9, h10⟩ := h
  have hz := hS.size
  refine ⟨e, by omega, by omega, h4, fun k hk => ⟨by have := (hF k hk).1; omega, (hF k hk).2⟩, sw, v0, v1, k0, k1, c, by rw [h0, h1]; exact (hS.block r h3 (Ne.symm h4)).trans h5, h6, h7, h8, ?_, ?_⟩
  · rw [h0]; exact h9.keep (hS.mono fun k _ hk => (hF k hk).2.1)
  · rw [h1]; exact h10.keep (hS.mono fun k _ hk => (hF k hk).2.1)
theorem PowIn.step {d : DiskM} {keep : List Int} {w wr W2 : World} {it r : Nat} {F : Nat → Prop} {sw : Bool} {k0 k1 clock : Nat} {b0 b1 : Bool} {seen : Array Nat} {u0 u1 : Value} {i : Nat} {A2 : Option Addr} {L c2 l q : Nat} {x : FileM}
    (hi : i < 2) (hbi : (if i = 0 then b0 else b1) = false) (hit : wr.heap[it]? = some (.mapIter (some r) clock seen clock)) (hss : seen.size = b0.toNat + b1.toNat) (hs0 : seen.contains k0 = b0) (hs1 : seen.contains k1 = b1)
    (hy0 : By wr F u0 (cutIf b0 keep 0 d.f0).b) (hy1 : By wr F u1 (cutIf b1 keep 1 d.f1).b) (hsm : Same (fun k => k ≠ r) w wr) (hk : k0 ≠ k1)
    (hT : Same (fun k => k ≠ it ∧ k ≠ wr.heap.size) wr W2) (hit3 : W2.heap[it]? = some (.mapIter (some r) clock (seen.push (if i = 0 then k0 else k1)) clock)) (hitw : it = w.heap.size) (hr : r < w.heap.size) (hF : ∀ k, F k → k < w.heap.size ∧ k ≠ r)
    (hx : x = d.file i) (hL : L = x.b.length) (hl : l = x.last) (hq : q = keepN keep i x) (hql : l + q ≤ L) (hby : By wr F (.slice A2 L c2) x.b) {W3 : World}
    (hW3 : setBlock W2.drew r (mapOf sw (if (i : Int) = 0 then .slice A2 (l + q) (l + q) else u0) (if (i : Int) = 0 then u1 else .slice A2 (l + q) (l + q)) (if (i : Int) = 0 then l + q else (cutIf b0 keep 0 d.f0).last) (if (i : Int) = 0 then (cutIf b1 keep 1 d.f1).last else l + q) k0 k1 clock) = W3) :
    PowIn d keep w W3 it r F sw k0 k1 clock ∧ leftIn W3 it < leftIn wr it := by
  have hz := hsm.size
  have hz2 := hT.size
  have hS3 : Same (fun k => k ≠ r) W2 W3 := hW3 ▸ (Same.refl _ _).drew.trans (same_setBlock _ _ _)
  have hnew : W3.heap[r]? = _ := hW3 ▸ heap_setBlock (w := W2.drew) _ (by show r < W2.heap.size; omega)
  have hitW : it < W2.heap.size := by
    rcases Nat.lt_or_ge it W2.heap.size with h | h
    · exact h
    · rw [Array.getElem?_eq_none h] at hit3; cases hit3
  have hit4 : W3.heap[it]? = _ := (hS3.block it hitW (by omega)).trans hit3
  have hFT : Same F wr W3 := (hT.mono fun k _ h => by have := hF k h; omega).trans (hS3.mono fun k _ h => (hF k h).2)
  have hy0' := hy0.keep hFT
  have hy1' := hy1.keep hFT
  have hcut : By W3 F (.slice A2 (l + q) (l + q)) (x.cut q).b := by
    obtain ⟨A, c, e, h1, h2, h3⟩ := hby.keep hFT
    injection e with e1 e2 e3
    subst e1
    have ht := h3.take (k := l + q) (by omega)
    refine ⟨A2, l + q, ?_, ?_, ?_, ?_⟩
    · simp [FileM.cut, ← hl, ← hL, Nat.min_eq_left hql]
    · simp [FileM.cut, ← hl, ← hL, Nat.min_eq_left hql]
    · have := h1; omega
    · have e : (x.cut q).b.length = l + q := by simp [FileM.cut, ← hl, ← hL, Nat.min_eq_left hql]
      rw [e]
      have e2 : cs8 (x.cut q).b = (cs8 x.b).take ((l + q) * 1) := by simp [FileM.cut, ← hl, cs8, List.map_take]
      rw [e2]
      exact ht
  have hsm3 : Same (fun k => k ≠ r) w W3 := (hsm.trans' hT (fun k hk _ => by omega)).trans hS3
  have hlen : leftIn W3 it < leftIn wr it := by
    unfold leftIn
    rw [hit4, hit]
    simp only [Array.size_push]
    have : seen.size < 2 := by
      rw [hss]
      split at hbi <;> simp_all <;> (cases b0 <;> cases b1 <;> simp_all)
    omega
  refine ⟨?_, hlen⟩
  obtain rfl | rfl : i = 0 ∨ i = 1 := by omega
  · have hb : b0 = false := hbi
    subst hb
    have hx0 : x = d.f0 := hx
    subst hx0
    refine ⟨true, b1, _, .slice A2 (l + q) (l + q), u1, hit4, ?_, ?_, ?_, hnew.trans ?_, ?_, ?_, hsm3⟩
    · simp [hss]; omega
    · simp
    · simp [hk.symm, ← hs1]
    · simp [cutIf, FileM.cut, ← hl, ← hq]
    · simpa [cutIf, ← hq] using hcut
    · simpa using hy1'
  · have hb : b1 = false := hbi
    subst hb
    have hx0 : x = d.f1 := hx
    subst hx0
    refine ⟨b0, true, _, u0, .slice A2 (l + q) (l + q), hit4, ?_, ?_, ?_, hnew.trans ?_, ?_, ?_, hsm3⟩
    · simp [hss]
    · simp [hk, ← hs0]
    · simp
    · simp [cutIf, FileM.cut, ← hl, ← hq]
    · simpa using hy0'
    · simpa [cutIf, ← hq] using hcut
set_option maxRecDepth 100000 in
theorem dpower_any (g r : Nat) (F S : Nat → Prop) (d : DiskM) (keep : List Int) (v : Value) (w : World) (h : DiskAt w g r F d) (hok : d.Ok) (hv : Ints w S v keep) (hS : ∀ k, S k → k < w.heap.size ∧ k ≠ g ∧ k ≠ r)
    (hlen : d.f0.b.length ≤ 4194304 ∧ d.f1.b.length ≤ 4194304) (hlv : d.lives < 1000000) :
    Calls Try.prog 20 #[ptr g, v] w (MPost g r F w (d.power keep)) := by
  have hn := dnone_any g r F d w h
  have c0 := h.1.cell 0
  simp at c0
  have H := Lib.hid h
  have hlt1 := h.2.1
  have hlt2 := h.2.2.1
  have hgr := h.2.2.2.1
  have HF := Lib.hid h.2.2.2.2.1
  obtain ⟨-, -, -, -, -, sw, v0, v1, k0, k1, clock, hb, hk0, hk1, hk, hy0, hy1⟩ := h
  have hrg := run_range_map (P := Try.prog) w 72 3 71 r
  obtain ⟨es, he⟩ : ∃ es, mapOf sw v0 v1 d.f0.last d.f1.last k0 k1 clock = .map es clock := by cases sw <;> exact ⟨_, rfl⟩
  have hrg := hrg es clock Try.underlying72 (by rw [← he]; exact hb)
  have h0 := Lib.hid (show PowIn d keep w (w.alloc (.mapIter (some r) clock #[] clock)) w.heap.size r F sw k0 k1 clock from
    ⟨false, false, #[], v0, v1, heap_alloc_new w _, rfl, by simp, by simp, heap_old hb, hy0.keepAll ((Same.refl _ _).alloc _), hy1.keepAll ((Same.refl _ _).alloc _), (Same.refl _ _).alloc _⟩)
  have HK := Lib.hid (show k0 < clock ∧ k1 < clock ∧ k0 ≠ k1 from ⟨hk0, hk1, hk⟩)
  obtain ⟨A, c, rfl, hc, hm, hsl, hbd⟩ := hv
  unfold maxLen at hm
  have HV := Lib.hid (And.intro hsl (And.intro hbd (And.intro hS (And.intro hok hlen))))
  clear hb hk0 hk1 hk hy0 hy1 he hsl hbd hS hok hlen
  go_enter Try.func20, Try.ntmps20
  go_wp2_with (go_at_call 45; refine hn.mono ?_; rintro e w1 ⟨rfl, rfl⟩)
  go_loopw [14] (fun _ wr => PowIn d keep w wr w.heap.size r F sw k0 k1 clock) (fun _ wr => leftIn wr w.heap.size)
  case atStart => exact h0.out
  case round =>
    clear h0 hrg
    have hrel' := hrel
    obtain ⟨b0, b1, seen, u0, u1, hit, hss, hs0, hs1, hb, hy0, hy1, hsm⟩ := hrel'
    have hir : w.heap.size ≠ r := by omega
    have HY := Lib.hid (And.intro hss (And.intro hs0 (And.intro hs1 (And.intro hy0 (And.intro hy1 hsm)))))
    clear hss hy0 hy1 hsm hrel
    go_wp2_with (at_next; refine wpList_next_files rfl _ rfl rfl hir hit hb HK.out hs0 hs1 ?_ ?_)
    · intro e0 e1
      subst e0 e1
      obtain ⟨hss, hs0, hs1, hy0, hy1, hsm⟩ := HY.out
      have hz := hsm.size
      have er := H.out.1.keep hsm hgr
      have q1 := er.cell 1
      have q2 := er.cell 2
      have q3 := er.cell 3
      have y1 := er.frozen 1
      have y2 := er.frozen 2
      have y3 := er.frozen 3
      simp at q1 q2 q3
      have hfin : DiskAt wr g r F { d with f0 := d.f0.cut (keepN keep 0 d.f0), f1 := d.f1.cut (keepN keep 1 d.f1) } :=
        ⟨er, by omega, by omega, hgr, fun k hk => ⟨by have := (HF.out k hk).1; omega, (HF.out k hk).2⟩, sw, u0, u1, k0, k1, clock, hb, HK.out.1, HK.out.2.1, HK.out.2.2, hy0, hy1⟩
      have Hfin := Lib.hid hfin
      have Her := Lib.hid er
      have Hsm := Lib.hid hsm
      clear hfin er hsm hy0 hy1 hb hit HY
      go_wp2
      go_end0
      have hS : Same (fun k => k ≠ g) wr (((wr.setCell ⟨g, 2, none⟩ (.bool false)).setCell ⟨g, 1, none⟩ (.int .i64 (-1))).setCell ⟨g, 3, none⟩ (.int .i64 (d.lives + 1))) :=
        (((Same.refl _ _).setCell (fun _ h => h rfl) _).setCell (fun _ h => h rfl) _).setCell (fun _ h => h rfl) _
      refine ⟨rfl, Hfin.out.struct hS ?_ rfl rfl, (Hsm.out.mono fun _ _ h => h.2).trans (hS.mono fun _ _ h => h.1)⟩
      exact ((Her.out.set_ 2 (.bool false)).set_ 1 (.int .i64 (-1))).set_ 3 (.int .i64 (d.lives + 1))
    · intro i hi hbi w2 hs2 hz2 hit2 hen
      obtain ⟨hss, hs0, hs1, hy0, hy1, hsm⟩ := HY.out
      have hbi : (if i = 0 then b0 else b1) = false := by split <;> simp_all
      obtain ⟨A2, c2, hval, hby, hc2⟩ := entry_form hi hbi hy0 hy1
      rw [hval] at hen ⊢
      have hxl : (d.file i).last ≤ (d.file i).b.length ∧ (d.file i).b.length ≤ 4194304 := by
        have h1 := HV.out.2.2.2.1.l0
        have h2 := HV.out.2.2.2.1.l1
        have h3 := HV.out.2.2.2.2
        unfold DiskM.file
        split <;> omega
      obtain ⟨hxl, hxm⟩ := hxl
      have HBy := Lib.hid hby
      have Hbi := Lib.hid hbi
      have Hit := Lib.hid hit
      have Hitl := Lib.hid (show w.heap.size < wr.heap.size by
        rcases Nat.lt_or_ge w.heap.size wr.heap.size with h | h
        · exact h
        · rw [Array.getElem?_eq_none h] at hit; cases hit)
      clear hss hy0 hy1 hsm hval hby hit hbi
      obtain ⟨q, hqd⟩ : ∃ q, q = keepN keep i (d.file i) := ⟨_, rfl⟩
      have hq2 : q ≤ (d.file i).b.length - (d.file i).last := by rw [hqd]; unfold keepN; split <;> omega
      have Hq := Lib.hid hqd
      have hq1 : ∀ h : i < keep.length, min (max keep[i] 0) (((d.file i).b.length : Int) - ((d.file i).last : Int)) = (q : Int) := by
        intro h
        rw [hqd]
        unfold keepN
        rw [if_pos h, show keep.getD i 0 = keep[i] by simp [h]]
        omega
      have hq0 : ¬ i < keep.length → q = 0 := by
        intro h
        rw [hqd]
        unfold keepN
        rw [if_neg h]
      clear hqd
      have hiI : (i : Int) < 2 := by omega
      obtain ⟨x, hx⟩ : ∃ x, x = d.file i := ⟨_, rfl⟩
      rw [← hx] at HBy hen hc2 hxl hxm hq2 hq1 ⊢
      have Hx := Lib.hid hx
      clear hx
      obtain ⟨L, hL⟩ : ∃ L, L = x.b.length := ⟨_, rfl⟩
      obtain ⟨l, hl⟩ : ∃ l, l = x.last := ⟨_, rfl⟩
      rw [← hL] at HBy hen hc2 hxl hxm hq2 hq1 ⊢
      rw [← hl] at hen hxl hq2 hq1 ⊢
      have HL := Lib.hid (And.intro hL hl)
      clear hL hl
      by_cases hlt : i < keep.length
      · obtain ⟨ad, u, hA, hSb, hu, hcell⟩ := HV.out.1.at_ hlt
        have hq1 := hq1 hlt
        obtain rfl : u = .int .i64 keep[i] := by simpa [hlt] using hu.symm
        subst hA
        have hltI : (i : Int) < (keep.length : Int) := by omega
        clear hu hq0
        have hcw : wr.cell? (ad.add i) = some (.int .i64 keep[i]) := HY.out.2.2.2.2.2.cell (by rw [block_of_add]; exact (HV.out.2.2.1 _ hSb).2.2) hcell
        have hadw : (ad.add i).block ≠ w.heap.size := by rw [block_of_add]; have := (HV.out.2.2.1 _ hSb).1; omega
        have hc2' : w2.cell? (ad.add i) = some (.int .i64 keep[i]) := hs2.cell hadw hcw
        clear hcw hadw hcell
        go_wp2
        generalize hW : World.alloc _ _ = W1
        have e1 : Row W1 wr.heap.size 71 [.slice A2 L c2, .int .i64 l] := by rw [← hW, ← hz2]; exact Row.new w2 71 [.slice A2 L c2, .int .i64 l]
        have hS1 : Same (fun _ => True) w2 W1 := hW ▸ (Same.refl _ _).alloc _
        clear hW
        have b0 := e1.cell 0
        have b1 := e1.cell 1
        have y0 := e1.frozen 0
        have y1 := e1.frozen 1
        simp at b0 b1
        have hcell := hS1.cell (p := ad.add i) trivial hc2'
        clear hc2'
        go_quiet (fail)
        go_wp2
        have hT2 : Same (fun k => k ≠ wr.heap.size) W1 (((W1.drewN nq).setCell ⟨wr.heap.size, 1, none⟩ (.int .i64 (↑l + ↑q))).setCell ⟨wr.heap.size, 0, none⟩ (.slice A2 (l + q) (l + q))) :=
          (((Same.refl _ _).drewN nq).setCell (fun _ h => h rfl) _).setCell (fun _ h => h rfl) _
        have e2 := (Row.set_ (w := W1.drewN nq) e1 1 (.int .i64 (↑l + ↑q))).set_ 0 (.slice A2 (l + q) (l + q))
        generalize hW2 : World.setCell _ _ _ = W2 at hT2 e2 ⊢
        clear hW2 b0 b1 y0 y1 e1 hcell
        have hT : Same (fun k => k ≠ w.heap.size ∧ k ≠ wr.heap.size) wr W2 := ((hs2.mono fun k _ h => h.1).trans (hS1.mono fun k _ _ => trivial)).trans (hT2.mono fun k _ h => h.2)
        have hitl : w.heap.size < wr.heap.size := Hitl.out
        have hit3 : W2.heap[w.heap.size]? = some (.mapIter (some r) clock (seen.push (if i = 0 then k0 else k1)) clock) := ((hS1.trans' hT2 (fun k hk _ => by show k ≠ wr.heap.size; omega)).block w.heap.size (by omega) trivial).trans hit2
        have q0 := hT.cell (p := ⟨g, 0, none⟩) ⟨by show g ≠ _; omega, by show g ≠ _; omega⟩ (HY.out.2.2.2.2.2.cell (p := ⟨g, 0, none⟩) hgr c0)
        have hb2 := (hT.block r (by omega) ⟨by omega, by omega⟩).trans hb
        have b0 := e2.cell 0
        have b1 := e2.cell 1
        simp at b0 b1
        obtain ⟨hss, hs0, hs1, hy0, hy1, hsm⟩ := HY.out
        have hstep := fun W3 h => PowIn.step (W3 := W3) (sw := sw) (i := i) (q := q) (l := l) (L := L) (c2 := c2) (A2 := A2) hi Hbi.out Hit.out hss hs0 hs1 hy0 hy1 hsm HK.out.2.2 hT hit3 rfl hlt2 (fun k h => ⟨(HF.out k h).1, (HF.out k h).2.2⟩) Hx.out HL.out.1 HL.out.2 (by rw [Hx.out]; exact Hq.out) (by omega) HBy.out h
        have Hstep := Lib.hid hstep
        clear hstep hss hs0 hs1 hy0 hy1 hsm hit3 hT hT2 hS1 hen hit2 e2
        go_still_tail 6, (by kernel_rfl)
        refine wpList_put (w := W2.drew) rfl (.tmp 51) (.tmp 52) (.tmp 53) rfl r i (.slice A2 (l + q) (l + q)) (l + q) rfl rfl rfl hb2 (by omega) ?_
        generalize hW3 : setBlock _ _ _ = W3
        have hst := Hstep.out W3 hW3
        clear hW3 hb2 Hstep b0 b1 q0
        go_wp2
        go_roundw
        case rel => exact ⟨_, _, _, _, _, _, _, _, _, _, _, _, _, _, _, _, _, _, _, _, _, _, _, _, _, _, _, _, _, _, _, _, _, _, _, _, _, _, _, _, _, _, _, hst.1, rfl⟩
        case measure => exact hst.2
      · have h0 := hq0 hlt
        subst h0
        have hltI : (keep.length : Int) ≤ (i : Int) := by omega
        clear hq1
        go_wp2
        generalize hW : World.alloc _ _ = W2
        have e2 : Row W2 wr.heap.size 71 [.slice A2 l l, .int .i64 l] := by rw [← hW, ← hz2]; exact Row.new w2 71 [.slice A2 l l, .int .i64 l]
        have hS1 : Same (fun _ => True) w2 W2 := hW ▸ (Same.refl _ _).alloc _
        clear hW
        have hT : Same (fun k => k ≠ w.heap.size ∧ k ≠ wr.heap.size) wr W2 := (hs2.mono fun k _ h => h.1).trans (hS1.mono fun k _ _ => trivial)
        have hitl : w.heap.size < wr.heap.size := Hitl.out
        have hit3 : W2.heap[w.heap.size]? = some (.mapIter (some r) clock (seen.push (if i = 0 then k0 else k1)) clock) := (hS1.block w.heap.size (by omega) trivial).trans hit2
        have q0 := hT.cell (p := ⟨g, 0, none⟩) ⟨by show g ≠ _; omega, by show g ≠ _; omega⟩ (HY.out.2.2.2.2.2.cell (p := ⟨g, 0, none⟩) hgr c0)
        have hb2 := (hT.block r (by omega) ⟨by omega, by omega⟩).trans hb
        have b0 := e2.cell 0
        have b1 := e2.cell 1
        simp at b0 b1
        obtain ⟨hss, hs0, hs1, hy0, hy1, hsm⟩ := HY.out
        have hstep := fun W3 h => PowIn.step (W3 := W3) (sw := sw) (i := i) (q := 0) (l := l) (L := L) (c2 := c2) (A2 := A2) hi Hbi.out Hit.out hss hs0 hs1 hy0 hy1 hsm HK.out.2.2 hT hit3 rfl hlt2 (fun k h => ⟨(HF.out k h).1, (HF.out k h).2.2⟩) Hx.out HL.out.1 HL.out.2 (by rw [Hx.out]; exact Hq.out) (by omega) HBy.out h
        have Hstep := Lib.hid hstep
        clear hstep hss hs0 hs1 hy0 hy1 hsm hit3 hT hS1 hen hit2 e2
        go_still_tail 6, (by kernel_rfl)
        refine wpList_put (w := W2.drew) rfl (.tmp 51) (.tmp 52) (.tmp 53) rfl r i (.slice A2 l l) l rfl rfl rfl hb2 (by omega) ?_
        generalize hW3 : setBlock _ _ _ = W3
        have hst := Hstep.out W3 hW3
        clear hW3 hb2 Hstep b0 b1 q0
        go_wp2
        go_roundw
        case rel => exact ⟨_, _, _, _, _, _, _, _, _, _, _, _, _, _, _, _, _, _, _, _, _, _, _, _, _, _, _, _, _, _, _, _, _, _, _, _, _, _, _, _, _, _, _, hst.1, rfl⟩
        case measure => exact hst.2
end Go.Proofs.Ytpjinngngbifoaa
namespace Go.Proofs.Ytpjinngngbifoaa
open Go.RowKit
theorem conv_const (w : World) (C : Array Value) (n c k : Nat) (h : k = w.heap.size) :
    (convert 24 24 (.slice (some ⟨k, 0, none⟩) n c)).run Try.prog (w.alloc (.cells C 5)) = .ok (.slice (some ⟨k, 0, none⟩) n c) (w.alloc (.cells C 5 (C.size, C.size + 1))) := by
  subst h
  exact Lib.run_convert_bytes_const (P := Try.prog) w 24 5 C n c Try.underlying24 Try.underlying5
/-- A constant's row, marked or not, reads as its bytes. -/
theorem By.lit {w : World} {S : Nat → Prop} {g : Nat} {bs : List UInt8} {n c : Nat} {e : TypeId} {fr : Nat × Nat} (h : w.heap[g]? = some (.cells (cs8 bs).toArray e fr)) (hs : S g) (hn : n = bs.length) (hc : n ≤ c) (hm : c ≤ maxLen) :
    By w S (.slice (some ⟨g, 0, none⟩) n c) bs := by
  subst hn
  refine ⟨_, c, rfl, hc, hm, by simp [cs8], fun _ => ⟨_, rfl, hs, fun j u hu => ?_⟩⟩
  have e0 : (⟨g, 0, none⟩ : Addr).add j = ⟨g, j, none⟩ := by unfold Addr.add; split <;> simp_all
  rw [e0, cell_of_row w g j _ e fr h]
  simpa using hu
def TrueP (w : World) (e : Ending) (w' : World) : Prop := e = .returned (.bool true) ∧ Same (fun _ => True) w w'
set_option maxRecDepth 100000 in
theorem conv_by {w : World} {S : Nat → Prop} {A : Option Addr} {n c : Nat} {bs : List UInt8} (h : By w S (.slice A n c) bs) : (convert 24 9 (.slice A n c)).run Try.prog w = .ok (.string (str bs)) w := by
  obtain ⟨A', c', e, h1, h2, h3⟩ := h
  injection e with e1 e2 e3
  subst e1 e2 e3
  exact conv_str (P := Try.prog) c 24 9 5 Try.underlying24 Try.underlying5 Try.underlying9 h3
theorem ByL.at_ {w : World} {S : Nat → Prop} {A : Option Addr} {n c k : Nat} {l : List (List UInt8)} (h : ByL w S (.slice A n c) l) (hk : k < l.length) :
    ∃ ad A2 c2, A = some ad ∧ n = l.length ∧ w.cell? (ad.add k) = some (.slice A2 l[k].length c2) ∧ By w S (.slice A2 l[k].length c2) l[k] := by
  obtain ⟨A', c', vs, e, h1, h2, h3, h4⟩ := h
  injection e with e1 e2 e3
  subst e1
  obtain ⟨ad, u, rfl, -, hu, hc⟩ := h3.at_ hk
  have hb := h4 k u l[k] hu (List.getElem?_eq_getElem hk)
  obtain ⟨A2, c2, rfl, -⟩ := id hb
  exact ⟨ad, A2, c2, rfl, e2, hc, hb⟩
theorem By.drop {w : World} {S : Nat → Prop} {A : Option Addr} {n c k : Nat} {bs : List UInt8} (h : By w S (.slice A n c) bs) (hk : k ≤ bs.length) :
    By w S (.slice (if c = k then A else A.map (·.add k)) (n - k) (c - k)) (bs.drop k) := by
  obtain ⟨A', c', e, h1, h2, h3⟩ := h
  injection e with e1 e2 e3
  subst e1 e2 e3
  have hc := h3.cut (cap := c) hk h1
  have hl : (bs.drop k).length = bs.length - k := List.length_drop
  refine ⟨_, c - k, by rw [hl], by rw [hl]; omega, by omega, ?_⟩
  rw [hl]
  rw [Nat.mul_one] at hc
  rwa [show (cs8 bs).drop k = cs8 (bs.drop k) by simp [cs8]] at hc
theorem sumFrom_ge {most : Int} : ∀ (l : List (List UInt8)) (n : Int), 0 ≤ most → n ≤ sumFrom most n l ∨ most < sumFrom most n l := by
  intro l
  induction l with
  | nil => intro n _; left; exact Int.le_refl _
  | cons b l ih =>
    intro n h0
    unfold sumFrom
    split
    · split
      · right; omega
      · rcases ih (n + b.length) h0 with h | h
        · left; omega
        · right; exact h
    · left; omega
theorem sumFrom_small {most : Int} (h0 : 0 ≤ most) : ∀ (l : List (List UInt8)) (n : Int), n ≤ most → sumFrom most n l ≤ most → n + l.flatten.length ≤ most ∧ ∀ b ∈ l, (b.length : Int) ≤ most := by
  intro l
  induction l with
  | nil => intro n hn _; simpa using hn
  | cons b l ih =>
    intro n hn h
    unfold sumFrom at h
    rw [if_pos hn] at h
    by_cases hb : most < (b.length : Int)
    · rw [if_pos hb] at h; omega
    · rw [if_neg hb] at h
      have hle : n + b.length ≤ most := by
        rcases sumFrom_ge l (n + b.length) h0 with h1 | h1 <;> omega
      obtain ⟨h1, h2⟩ := ih _ hle h
      refine ⟨by simp only [List.flatten_cons, List.length_append]; omega, fun x hx => ?_⟩
      rcases List.mem_cons.1 hx with rfl | hx
      · omega
      · exact h2 x hx
end Go.Proofs.Ytpjinngngbifoaa
