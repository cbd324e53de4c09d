/-
  The words, plain models and short walks of mvcc that the claims share (written by bundle.py out of: MvK1, MvK2, MvX2). No condition.
-/
import Derived.Test.YtoldelocfmpccaaMvS6H
import Derived.Test.YtoldelocfmpccaaQ4
set_option linter.unusedSimpArgs false
set_option linter.unusedVariables false
namespace Go.Proofs.Ytoldelocfmpccaa
open Go.RowKit

def setsL : List Value → Nat → List Value → List Value
  | L, _, [] => L
  | L, k, v :: vs => setsL (L.set k v) (k + 1) vs
theorem setsL_len : ∀ (vs L : List Value) (k : Nat), (setsL L k vs).length = L.length
  | [], _, _ => rfl
  | v :: vs, L, k => by
    show (setsL (L.set k v) (k + 1) vs).length = _
    rw [setsL_len vs, List.length_set]
theorem setsL_eq : ∀ (vs L : List Value) (k : Nat), k + vs.length ≤ L.length → setsL L k vs = L.take k ++ vs ++ L.drop (k + vs.length)
  | [], L, k, _ => by simp [setsL]
  | v :: vs, L, k, h => by
    rw [List.length_cons] at h
    show setsL (L.set k v) (k + 1) vs = _
    rw [setsL_eq vs _ _ (by rw [List.length_set]; omega), List.take_set, List.take_succ_eq_append_getElem (by omega), List.drop_set, if_pos (by omega)]
    have e1 : ((L.take k ++ [L[k]]).set k v) = L.take k ++ [v] := by
      rw [List.set_append, if_neg (by rw [List.length_take]; omega)]
      have : k - (L.take k).length = 0 := by rw [List.length_take]; omega
      rw [this]; rfl
    rw [e1, List.length_cons, show k + 1 + vs.length = k + (vs.length + 1) from by omega]
    simp
def setsW : World → Nat → Nat → List Value → World
  | w, _, _, [] => w
  | w, g, k, v :: vs => setsW (w.setCell ⟨g, k, none⟩ v) g (k + 1) vs
theorem Row.sets {g : Nat} {e : TypeId} : ∀ (vs : List Value) {w : World} {L : List Value} (k : Nat), Row w g e L → Row (setsW w g k vs) g e (setsL L k vs)
  | [], _, _, _, h => h
  | v :: vs, w, L, k, h => Row.sets vs (k + 1) (h.set_ k v)
theorem Same.sets {S : Nat → Prop} {g : Nat} (hg : ¬ S g) : ∀ (vs : List Value) {w w' : World} (k : Nat), Same S w w' → Same S w (setsW w' g k vs)
  | [], _, _, _, h => h
  | v :: vs, w, w', k, h => Same.sets hg vs (k + 1) (h.setCell (p := ⟨g, k, none⟩) (fun _ => hg) v)
def lockCs (l : Lck) : List Value := .bool true :: lckCs l
theorem celCs_upd (u : Value) (d : Cel) (l : Lck) : celCs (u, updC d l) = (celCs (u, d)).take 2 ++ lockCs l := rfl
set_option maxHeartbeats 1000000 in
/-- The ten stores that lock a cell. -/
theorem OwnC.upd {w W : World} {B g cap n : Nat} {A Z : List Cel} {d : Cel} (h : OwnC w B (.slice (some ⟨g, 0, none⟩) n cap) (A ++ d :: Z)) (l : Lck) {o : Nat} (ho : o = A.length * 12 + 2) (hW : W = setsW w g o (lockCs l)) :
    OwnC W B (.slice (some ⟨g, 0, none⟩) n cap) (A ++ updC d l :: Z) ∧ Same (fun k => k ≠ g) w W := by
  subst ho hW
  have hS : Same (fun k => k ≠ g) w (setsW w g (A.length * 12 + 2) (lockCs l)) := Same.sets (fun h => h rfl) _ _ (Same.refl _ _)
  refine ⟨?_, hS⟩
  obtain ⟨us, u1, u2, u3⟩ := h
  have hul : (us.zip (A ++ d :: Z)).length = (A ++ d :: Z).length := by simp [u1]
  have hAl : A.length < us.length := by rw [u1]; simp
  rcases u2.ways with ⟨h0, _⟩ | ⟨g', cap', cur, h0, hB, hr, hc, hm, hl, ht⟩
  · cases h0
  injection h0 with h0 h1 h2
  injection h0 with h0
  injection h0 with h0 _ _
  subst h0 h2
  have e1 : us = us.take A.length ++ us[A.length] :: us.drop (A.length + 1) := by
    rw [← List.drop_eq_getElem_cons hAl, List.take_append_drop]
  have hta : (us.take A.length).length = A.length := by rw [List.length_take]; omega
  have hz : us.zip (A ++ d :: Z) = (us.take A.length).zip A ++ (us[A.length], d) :: (us.drop (A.length + 1)).zip Z := by
    conv => lhs; rw [e1]
    rw [List.zip_append hta]
    rfl
  have hz' : us.zip (A ++ updC d l :: Z) = (us.take A.length).zip A ++ (us[A.length], updC d l) :: (us.drop (A.length + 1)).zip Z := by
    conv => lhs; rw [e1]
    rw [List.zip_append hta]
    rfl
  have hlA : ((us.take A.length).zip A).length = A.length := by simp; omega
  have hr' := Row.sets (lockCs l) (A.length * 12 + 2) hr
  have hn : (us.zip (A ++ updC d l :: Z)).length = (us.zip (A ++ d :: Z)).length := by simp
  have hlen : (A ++ d :: Z).length = A.length + 1 + Z.length := by simp; omega
  refine ⟨us, by rw [u1]; simp, ?_, ?_⟩
  · refine OwnR.make hB hr' (by rw [hn]; exact hc) hm (by rw [setsL_len]; exact hl) ?_ (by rw [hn]; exact h1.symm)
    have hcap0 : (A ++ d :: Z).length ≤ cap := by rw [← hul]; exact hc
    have hfit : A.length * 12 + 2 + (lockCs l).length ≤ cur.length := by
      have : (lockCs l).length = 10 := rfl
      omega
    rw [hn, setsL_eq _ _ _ hfit, hz', List.flatMap_append, List.flatMap_cons, celCs_upd]
    rw [hz, List.flatMap_append, List.flatMap_cons] at ht
    have hA12 : (((us.take A.length).zip A).flatMap celCs).length = A.length * 12 := by rw [flat_len celCs 12 celCs_len, hlA]
    have hN : (((us.take A.length).zip A ++ (us[A.length], d) :: (us.drop (A.length + 1)).zip Z)).length = A.length + 1 + Z.length := by rw [← hz, hul, hlen]
    rw [hN] at ht
    have hcap : A.length + 1 + Z.length ≤ cap := by rw [← hlen, ← hul]; exact hc
    have hlk : (lockCs l).length = 10 := rfl
    have hZl : ((us.drop (A.length + 1)).zip Z).length = Z.length := by simp at u1 ⊢; omega
    have hZ12 : (((us.drop (A.length + 1)).zip Z).flatMap celCs).length = Z.length * 12 := by rw [flat_len celCs 12 celCs_len, hZl]
    -- the row's pieces
    have p1 : cur.take (A.length * 12) = ((us.take A.length).zip A).flatMap celCs := by
      have q1 : (cur.take ((A.length + 1 + Z.length) * 12)).take (A.length * 12) = cur.take (A.length * 12) := by rw [List.take_take, Nat.min_eq_left (by omega)]
      rw [← q1, ht, ← hA12]
      exact List.take_left
    have p2 : (cur.take ((A.length + 1 + Z.length) * 12)).drop (A.length * 12) = celCs (us[A.length], d) ++ ((us.drop (A.length + 1)).zip Z).flatMap celCs := by
      rw [ht, ← hA12]
      exact List.drop_left
    have p3 : (cur.drop (A.length * 12)).take 2 = (celCs (us[A.length], d)).take 2 := by
      have := congrArg (List.take 2) p2
      rw [List.drop_take, List.take_take, Nat.min_eq_left (by omega), List.take_append_of_le_length (by rw [celCs_len]; omega)] at this
      exact this
    have p4 : (cur.take ((A.length + 1 + Z.length) * 12)).drop ((A.length + 1) * 12) = ((us.drop (A.length + 1)).zip Z).flatMap celCs := by
      have q1 : (celCs (us[A.length], d) ++ ((us.drop (A.length + 1)).zip Z).flatMap celCs).drop 12 = ((us.drop (A.length + 1)).zip Z).flatMap celCs := by
        have : (12 : Nat) = (celCs (us[A.length], d)).length := rfl
        rw [this]
        exact List.drop_left
      rw [← q1, ← p2, List.drop_drop, show A.length * 12 + 12 = (A.length + 1) * 12 from by omega]
    have p5 : cur.take (A.length * 12 + 2) = cur.take (A.length * 12) ++ (cur.drop (A.length * 12)).take 2 := by rw [List.take_add]
    rw [p5, p1, p3, hlk, hul, hlen, ← p4, List.drop_take]
    have q1 : (((us.take A.length).zip A).flatMap celCs ++ (celCs (us[A.length], d)).take 2).length = A.length * 12 + 2 := by
      rw [List.length_append, hA12, List.length_take, celCs_len]; omega
    rw [List.append_assoc _ (lockCs l), List.take_append, q1, List.take_of_length_le (by rw [q1]; omega), List.take_append, hlk, List.take_of_length_le (l := lockCs l) (by rw [hlk]; omega)]
    rw [show (A.length + 1 + Z.length) * 12 - (A.length * 12 + 2) - 10 = (A.length + 1 + Z.length) * 12 - (A.length + 1) * 12 from by omega, show A.length * 12 + 2 + 10 = (A.length + 1) * 12 from by omega]
    simp only [List.append_assoc]
  · intro i hi hi'
    have hv : (A ++ updC d l :: Z)[i].vers = ((A ++ d :: Z)[i]'(by simp at hi ⊢; omega)).vers := by
      rcases Nat.lt_trichotomy i A.length with h | h | h
      · rw [List.getElem_append_left h, List.getElem_append_left h]
      · subst h; simp [updC]
      · rw [List.getElem_append_right (by omega), List.getElem_append_right (by omega), List.getElem_cons, List.getElem_cons, dif_neg (by omega), dif_neg (by omega)]
    rw [hv]
    have := u3 i (by simp at hi ⊢; omega) hi'
    refine this.keepOwn u2 (by decide) (hS.mono fun k _ hk e => hk ?_)
    rw [e]; rfl
theorem celCs_fresh (k : List UInt8) : celCs (.slice none 0 0, freshC k) = [.string (str k), .slice none 0 0, .bool false, .int .i64 0, .int .i64 0, .int .i64 0, .int .i64 0, .int .i64 0, .int .i64 0, .int .i64 0, .bool false, .string (str [])] := rfl
theorem zip_ins {us : List Value} {cs : List Cel} (u : Value) (d : Cel) (h : us.length = cs.length) (i : Nat) : (us.zip cs).take i ++ (u, d) :: (us.zip cs).drop i = (us.take i ++ u :: us.drop i).zip (cs.take i ++ d :: cs.drop i) := by
  rw [List.zip_append (by simp [h]), List.zip_cons_cons]
  simp only [List.zip, List.take_zipWith, List.drop_zipWith]
set_option maxHeartbeats 1000000 in
theorem insC_any (v : Value) (cs : List Cel) (key : List UInt8) (i x B : Nat) (w : World) (hown : OwnC w B v cs) (hx : Row w x 64 (celCs (.slice none 0 0, freshC key))) (hne : v.ownBlock ≠ some x) (hi : i ≤ cs.length) (hn : cs.length ≤ 1000000) (hB : B ≤ w.heap.size) :
    Calls Try.prog 69 #[v, .int .i64 i, .slice (some ⟨x, 0, none⟩) 1 1] w fun e w' => ∃ v', e = .returned v' ∧ OwnC w' B v' (cs.take i ++ freshC key :: cs.drop i) ∧ Same (fun k => some k ≠ v.ownBlock) w w' := by
  obtain ⟨us, u1, u2, u3⟩ := hown
  have hul : (us.zip cs).length = cs.length := by simp [u1]
  refine (insc_any v (us.zip cs) (.slice none 0 0, freshC key) i x B w u2 hx hne (by omega) (by omega) hB ?_ (celCs_one _)).mono ?_
  · intro y hy
    obtain ⟨j, hj, rfl⟩ := List.mem_iff_getElem.1 hy
    obtain ⟨Aj, cj, h1, _⟩ := u3 j (by omega) (by omega)
    rw [List.getElem_zip, h1]
    exact celCs_one _
  · rintro e w' ⟨v', rfl, h1, h2⟩
    rw [zip_ins _ _ u1] at h1
    refine ⟨v', rfl, ⟨_, by simp [u1], h1, fun j hj hj' => ?_⟩, h2⟩
    have keep : ∀ q (h : q < cs.length) (h' : q < us.length), RowW verCs 4 69 w' (fun k => B ≤ k) us[q] cs[q].vers := fun q h h' => (u3 q h h').keepOwn u2 (by decide) h2
    have ha : (us.take i).length = i := by rw [List.length_take]; omega
    have hb : (cs.take i).length = i := by rw [List.length_take]; omega
    rcases Nat.lt_trichotomy j i with h | h | h
    · rw [List.getElem_append_left (by omega), List.getElem_append_left (by omega), List.getElem_take, List.getElem_take]
      exact keep j _ _
    · subst h
      rw [List.getElem_append_right (by omega), List.getElem_append_right (by omega)]
      simp only [ha, hb, Nat.sub_self, List.getElem_cons_zero]
      exact ⟨none, 0, rfl, Nat.le_refl _, by simp [maxLen], fun h => absurd h (by simp [freshC])⟩
    · rw [List.getElem_append_right (by omega), List.getElem_append_right (by omega)]
      simp only [ha, hb]
      rw [List.getElem_cons, List.getElem_cons, dif_neg (by omega), dif_neg (by omega), List.getElem_drop, List.getElem_drop]
      exact keep _ _ _
end Go.Proofs.Ytoldelocfmpccaa
set_option linter.unusedSimpArgs false
set_option linter.unusedVariables false
namespace Go.Proofs.Ytoldelocfmpccaa
open Go.RowKit

def wrCs (w : Wr) : List Value := [.string (str w.key), .bool w.drop, .string (str w.data)]
abbrev wrV (w : Wr) : Value := .agg #[.string (str w.key), .bool w.drop, .string (str w.data)]
theorem OwnC.head {w : World} {B : Nat} {v : Value} {cs : List Cel} (h : OwnC w B v cs) (h0 : 0 < cs.length) : ∃ g n cap, v = .slice (some ⟨g, 0, none⟩) n cap ∧ n = cs.length ∧ n ≤ cap ∧ cap ≤ maxLen ∧ B ≤ g ∧ g < w.heap.size ∧ ∀ j, w.frozen? ⟨g, j, none⟩ = false := by
  obtain ⟨us, u1, u2, _⟩ := h
  have hul : (us.zip cs).length = cs.length := by simp [u1]
  rcases u2.ways with ⟨_, h0'⟩ | ⟨g, cap, cur, h1, hB, hr, hc, hm, _⟩
  · rw [h0'] at hul; simp at hul; omega
  · exact ⟨g, _, cap, h1, hul, hc, hm, hB, hr.lt, hr.frozen⟩
theorem OwnC.at12 {w : World} {B g n cap : Nat} {cs : List Cel} (h : OwnC w B (.slice (some ⟨g, 0, none⟩) n cap) cs) {i : Nat} (hi : i < cs.length) : ∃ u2 u3 u4 u5 u6 u7 u8 u9 u10 u11 : Value,
    w.cell? ⟨g, i * 12 + 2, none⟩ = some u2 ∧ w.cell? ⟨g, i * 12 + 3, none⟩ = some u3 ∧ w.cell? ⟨g, i * 12 + 4, none⟩ = some u4 ∧ w.cell? ⟨g, i * 12 + 5, none⟩ = some u5 ∧ w.cell? ⟨g, i * 12 + 6, none⟩ = some u6 ∧ w.cell? ⟨g, i * 12 + 7, none⟩ = some u7 ∧ w.cell? ⟨g, i * 12 + 8, none⟩ = some u8 ∧ w.cell? ⟨g, i * 12 + 9, none⟩ = some u9 ∧ w.cell? ⟨g, i * 12 + 10, none⟩ = some u10 ∧ w.cell? ⟨g, i * 12 + 11, none⟩ = some u11 := by
  obtain ⟨ad, u, e, -, -, -, -, h⟩ := h.cells12 hi
  injection e with e
  subst e
  simp only [add_none, Nat.zero_add] at h
  exact ⟨_, _, _, _, _, _, _, _, _, _, h⟩
theorem lck_of (l : Lck) : lckCs l = [.int .i64 l.by_.node, .int .i64 l.by_.life, .int .i64 l.by_.seq, .int .i64 l.by_.attempt, .int .i64 l.home, .int .i64 l.at_.wall, .int .i64 l.at_.tie, .bool l.drop, .string (str l.data)] := rfl
set_option maxHeartbeats 4000000 in
theorem mvlock_any (v : Value) (cs : List Cel) (x : Wr) (l : Lck) (S : Nat → Prop) (w : World) (hv : CelR w S v cs) (hn : cs.length ≤ 100000) (hn2 : ∀ c ∈ cs, c.vers.length ≤ 1000000) (hso : Sorted cs) :
    Calls Try.prog 26 #[v, wrV x, lckV l] w (AllP (lockF cs x.key (lockW x l)) w) := by
  obtain ⟨A, cp, rfl, hc, hm⟩ := hv.form
  have Hv := Lib.hid hv
  have Hn2 := Lib.hid hn2
  have Hso := Lib.hid hso
  obtain ⟨Aa, o, Z, e1, e2, e3, e4, e5, e6, e7⟩ := split_at (k := x.key) ((sorted_iff cs).1 hso)
  have e5 := e5 (lockW x l)
  unfold maxLen at hm
  have r0 := (Row.new w 24 (wrCs x)).keep ((Same.refl (fun _ => True) _).alloc (.cells (lckCs l).toArray 30)) trivial
  have r1 := Row.new (w.alloc (.cells (wrCs x).toArray 24)) 30 (lckCs l)
  have hS0 := ((Same.refl (fun _ => True) w).alloc (.cells (wrCs x).toArray 24)).alloc (.cells (lckCs l).toArray 30)
  rw [World.size_alloc] at r1
  have hsz : (w.alloc (.cells (wrCs x).toArray 24) |>.alloc (.cells (lckCs l).toArray 30)).heap.size = w.heap.size + 2 := by rw [World.size_alloc, World.size_alloc]
  have E1 := Lib.hid e1
  have E4 := Lib.hid e4
  have E5 := Lib.hid e5
  clear hv hn2 hso e1 e2 e3 e4 e5
  obtain ⟨cf, hcf⟩ : ∃ cf, cf = foundF cs x.key := ⟨_, rfl⟩
  go_enter Try.func26, Try.ntmps26
  go_wp2
  revert r0 r1 hS0 hsz
  simp only [wrCs, lckCs]
  generalize (w.alloc _).alloc _ = W0
  intro r0 r1 hS0 hsz
  have b0 : W0.cell? ⟨w.heap.size, 0, none⟩ = some (.string (str x.key)) := r0.cell 0
  have b1 : W0.cell? ⟨w.heap.size, 1, none⟩ = some (.bool x.drop) := r0.cell 1
  have b2 : W0.cell? ⟨w.heap.size, 2, none⟩ = some (.string (str x.data)) := r0.cell 2
  have l7 : W0.cell? ⟨w.heap.size + 1, 7, none⟩ = some (.bool l.drop) := r1.cell 7
  have l8 : W0.cell? ⟨w.heap.size + 1, 8, none⟩ = some (.string (str l.data)) := r1.cell 8
  have f7 := r1.frozen 7
  have f8 := r1.frozen 8
  have z0 := r0.lt
  have z1 := r1.lt
  have R0 := Lib.hid r0
  have R1 := Lib.hid r1
  have HS0 := Lib.hid hS0
  have Hsz := Lib.hid hsz
  clear r0 r1 hS0 hsz
  go_region
  go_wp2_with (with_reducible refine stopDst 17 rfl ?_)
  unfold Hid
  have r1 := (R1.out.set_ 7 (.bool x.drop)).set_ 8 (.string (str x.data))
  have hS1 : Same (fun q => q ≠ w.heap.size + 1) W0 ((W0.setCell ⟨w.heap.size + 1, 7, none⟩ (.bool x.drop)).setCell ⟨w.heap.size + 1, 8, none⟩ (.string (str x.data))).drew := (((Same.refl _ _).setCell (fun _ h => h rfl) _).setCell (fun _ h => h rfl) _).drew
  have r1 := r1.keep ((Same.refl (fun _ => True) _).drew) trivial
  have hsz1 : ((W0.setCell ⟨w.heap.size + 1, 7, none⟩ (.bool x.drop)).setCell ⟨w.heap.size + 1, 8, none⟩ (.string (str x.data))).drew.heap.size = w.heap.size + 2 := by rw [← Hsz.out]; simp [World.setCell, World.drew]
  revert hsz1 hS1 r1
  generalize ((W0.setCell ⟨w.heap.size + 1, 7, none⟩ (.bool x.drop)).setCell ⟨w.heap.size + 1, 8, none⟩ (.string (str x.data))).drew = W1
  intro hS1 r1 hsz1
  have r1 : Row W1 (w.heap.size + 1) 30 [.int .i64 l.by_.node, .int .i64 l.by_.life, .int .i64 l.by_.seq, .int .i64 l.by_.attempt, .int .i64 l.home, .int .i64 l.at_.wall, .int .i64 l.at_.tie, .bool x.drop, .string (str x.data)] := r1
  have r0 := R0.out.keep hS1 (by omega)
  have b0 : W1.cell? ⟨w.heap.size, 0, none⟩ = some (.string (str x.key)) := r0.cell 0
  have b1 : W1.cell? ⟨w.heap.size, 1, none⟩ = some (.bool x.drop) := r0.cell 1
  have l8 : W1.cell? ⟨w.heap.size + 1, 8, none⟩ = some (.string (str x.data)) := r1.cell 8
  have f8 := r1.frozen 8
  have z1 := r1.lt
  have R0 := Lib.hid r0
  have R1 := Lib.hid r1
  have Hsz := Lib.hid hsz1
  have hS2 : Same (fun _ => True) w W1 := HS0.out.trans' hS1 fun q hq _ => by omega
  have HS0 := Lib.hid hS2
  clear r0 r1 hS1 hsz1 hS2 b2 l7 f7 z0
  cases hd : x.drop
  · rw [hd] at b1
    have hlk : lckCs (lockW x l) = [.int .i64 l.by_.node, .int .i64 l.by_.life, .int .i64 l.by_.seq, .int .i64 l.by_.attempt, .int .i64 l.home, .int .i64 l.at_.wall, .int .i64 l.at_.tie, .bool x.drop, .string (str x.data)] := by simp [lck_of, lockW, hd]
    have Hlk := Lib.hid hlk
    have Hd := Lib.hid hd
    clear hlk hd
    go_wp2_with (go_at_call 67; refine stopAt ?_)
    unfold Hid
    obtain ⟨W2, hW2⟩ : ∃ W2, W2 = W1 := ⟨_, rfl⟩
    subst hW2
    have hsz2 := Hsz.out
    refine (all_any (.slice A cs.length cp) cs S W2 (Hv.out.keepAll HS0.out) hn Hn2.out).mono ?_
    rintro e w3 ⟨v3, rfl, hown3, hS3⟩
    obtain ⟨A3, n3, c3, rfl, hl3, hm3⟩ := hown3.form3
    unfold maxLen at hm3
    have r0 := R0.out.keep hS3 trivial
    have r1 := R1.out.keep hS3 trivial
    have b0 : w3.cell? ⟨w.heap.size, 0, none⟩ = some (.string (str x.key)) := r0.cell 0
    have z1 := r1.lt
    have R0 := Lib.hid r0
    have R1 := Lib.hid r1
    have Hown3 := Lib.hid hown3
    have hS03 := HS0.out.trans hS3
    have HS0 := Lib.hid hS03
    have hz3 := hS3.size
    clear r0 r1 hown3 hS3 hS03 b1 l8 f8
    go_wp2_with (go_at_call 68; refine stopAt ?_)
    unfold Hid
    refine (mvfind_any (.slice A3 n3 c3) cs x.key _ w3 Hown3.out.reads Hso.out (by omega)).mono ?_
    rintro e w4 ⟨rfl, hS4⟩
    rw [e6, e7]
    have r0 := R0.out.keep hS4 trivial
    have r1 := R1.out.keep hS4 trivial
    have b0 : w4.cell? ⟨w.heap.size, 0, none⟩ = some (.string (str x.key)) := r0.cell 0
    have z1 := r1.lt
    have R0 := Lib.hid r0
    have R1 := Lib.hid r1
    have hown4 := Hown3.out.keepAll hS4
    rw [E1.out] at hown4
    have hS04 := HS0.out.trans hS4
    have HS0 := Lib.hid hS04
    have hz4 := hS4.size
    have hB : W2.heap.size ≤ w4.heap.size := by omega
    have Hown4 := Lib.hid hown4
    clear r0 r1 hS4 hS04 hown4
    cases o with
    | some c =>
      obtain ⟨w5, hw5⟩ : ∃ w5, w5 = w4 := ⟨_, rfl⟩
      subst hw5
      have hown5 := Hown4.out
      simp only [Option.toList_some, List.singleton_append] at hown5
      have Hown5 := Lib.hid hown5
      have HS5 := HS0
      rw [Option.getD_some] at E5
      clear hown5 e6 e7 Hown4
      go_wp2
      have hlt : Aa.length < (Aa ++ c :: Z).length := by simp
      obtain ⟨g, n5, cap5, hv5, hn5, hc5, hm5, hBg, hg5, hfz⟩ := Hown5.out.head (by rw [List.length_append, List.length_cons]; omega)
      injection hv5 with hv5 hv6 hv7
      subst hv5 hv6 hv7
      have hn5' : n3 = Aa.length + 1 + Z.length := by rw [hn5]; simp; omega
      obtain ⟨k2, k3, k4, k5, k6, k7, k8, k9, k10, k11, y2, y3, y4, y5, y6, y7, y8, y9, y10, y11⟩ := Hown5.out.at12 hlt
      have q1 : (0 : Int) ≤ (Aa.length : Int) := by omega
      have q2 : (Aa.length : Int) < (n3 : Int) := by omega
      have f2 := hfz (Aa.length * 12 + 2)
      have f3 := hfz (Aa.length * 12 + 3)
      have f4 := hfz (Aa.length * 12 + 4)
      have f5 := hfz (Aa.length * 12 + 5)
      have f6 := hfz (Aa.length * 12 + 6)
      have f7 := hfz (Aa.length * 12 + 7)
      have f8 := hfz (Aa.length * 12 + 8)
      have f9 := hfz (Aa.length * 12 + 9)
      have f10 := hfz (Aa.length * 12 + 10)
      have f11 := hfz (Aa.length * 12 + 11)
      have r1 := R1.out
      have m0 : w5.cell? ⟨w.heap.size + 1, 0, none⟩ = some (.int .i64 l.by_.node) := r1.cell 0
      have m1 : w5.cell? ⟨w.heap.size + 1, 1, none⟩ = some (.int .i64 l.by_.life) := r1.cell 1
      have m2 : w5.cell? ⟨w.heap.size + 1, 2, none⟩ = some (.int .i64 l.by_.seq) := r1.cell 2
      have m3 : w5.cell? ⟨w.heap.size + 1, 3, none⟩ = some (.int .i64 l.by_.attempt) := r1.cell 3
      have m4 : w5.cell? ⟨w.heap.size + 1, 4, none⟩ = some (.int .i64 l.home) := r1.cell 4
      have m5 : w5.cell? ⟨w.heap.size + 1, 5, none⟩ = some (.int .i64 l.at_.wall) := r1.cell 5
      have m6 : w5.cell? ⟨w.heap.size + 1, 6, none⟩ = some (.int .i64 l.at_.tie) := r1.cell 6
      have m7 : w5.cell? ⟨w.heap.size + 1, 7, none⟩ = some (.bool x.drop) := r1.cell 7
      have m8 : w5.cell? ⟨w.heap.size + 1, 8, none⟩ = some (.string (str x.data)) := r1.cell 8
      have hne1 : g ≠ w.heap.size + 1 := by omega
      have z5 := r1.lt
      clear r1 hfz hn5 hn5' hlt
      go_region
      go_wp2
      go_ret
      have hup := Hown5.out.upd (W := setsW w5 g (Aa.length * 12 + 2) [.bool true, .int .i64 l.by_.node, .int .i64 l.by_.life, .int .i64 l.by_.seq, .int .i64 l.by_.attempt, .int .i64 l.home, .int .i64 l.at_.wall, .int .i64 l.at_.tie, .bool x.drop, .string (str x.data)]) (lockW x l) rfl (by rw [lockCs, Hlk.out])
      rw [E5.out]
      simp only [setsW] at hup
      refine ⟨_, rfl, (hup.1.keepAll ((Same.refl _ _).drew)).lower (by omega), ?_⟩
      exact HS5.out.trans' hup.2.drew fun q hq _ => by omega
    | none =>
      have hown5 := Hown4.out
      simp only [Option.toList_none, List.nil_append] at hown5
      have Hown4 := Lib.hid hown5
      rw [Option.getD_none] at E5
      have E1' : cs = Aa ++ Z := by have := E1.out; simpa using this
      have HE1 := Lib.hid E1'
      have hlA : Aa.length ≤ (Aa ++ Z).length := by simp
      have hlc : (Aa ++ Z).length ≤ 1000000 := by rw [← E1']; omega
      have hsb := (Same.refl (fun _ => True) w4).alloc (.cells (celCs (.slice none 0 0, freshC x.key)).toArray 64)
      have gi := insC_any (.slice A3 n3 c3) (Aa ++ Z) x.key Aa.length w4.heap.size W2.heap.size (w4.alloc (.cells (celCs (.slice none 0 0, freshC x.key)).toArray 64)) (hown5.keepAll hsb) (Row.new _ _ _) (fun e => by
        obtain ⟨us, _, u2, _⟩ := hown5
        have := (u2.lt_ e).2
        omega) hlA hlc (by have := hsb.size; omega)
      rw [List.take_left, List.drop_left] at gi
      have hown6 : ∀ k, (Value.slice A3 n3 c3).ownBlock = some k → W2.heap.size ≤ k := fun k e => by
        obtain ⟨us, _, u2, _⟩ := hown5
        exact (u2.lt_ e).1
      have Hown6 := Lib.hid hown6
      have Gi := Lib.hid gi
      have Hsb := Lib.hid hsb
      clear hown5 hown6 e6 e7 E1' hlA hlc gi hsb
      go_wp2_with (go_at_call 69; refine stopAt ?_)
      unfold Hid
      refine Gi.out.mono ?_
      rintro e w5 ⟨v5, rfl, hown5, hS5⟩
      have hS45 : Same (fun q => q < W2.heap.size) w4 w5 := (Hsb.out.mono fun _ _ _ => trivial).trans (hS5.mono fun q _ hq e => by have := Hown6.out q e.symm; omega)
      have r1 := R1.out.keep hS45 (by omega)
      have R1 := Lib.hid r1
      have hS05 : Same (fun _ => True) w w5 := HS0.out.trans' hS45 fun q hq _ => by omega
      have HS5 := Lib.hid hS05
      have Hown5 := Lib.hid hown5
      clear r1 hS45 hS05 hown5 hS5 z1 Gi
      go_wp2
      have hlt : Aa.length < (Aa ++ freshC x.key :: Z).length := by simp
      obtain ⟨g, n5, cap5, hv5, hn5, hc5, hm5, hBg, hg5, hfz⟩ := Hown5.out.head (by rw [List.length_append, List.length_cons]; omega)
      subst hv5
      have hn5' : n5 = Aa.length + 1 + Z.length := by rw [hn5]; simp; omega
      obtain ⟨k2, k3, k4, k5, k6, k7, k8, k9, k10, k11, y2, y3, y4, y5, y6, y7, y8, y9, y10, y11⟩ := Hown5.out.at12 hlt
      have q1 : (0 : Int) ≤ (Aa.length : Int) := by omega
      have q2 : (Aa.length : Int) < (n5 : Int) := by omega
      have f2 := hfz (Aa.length * 12 + 2)
      have f3 := hfz (Aa.length * 12 + 3)
      have f4 := hfz (Aa.length * 12 + 4)
      have f5 := hfz (Aa.length * 12 + 5)
      have f6 := hfz (Aa.length * 12 + 6)
      have f7 := hfz (Aa.length * 12 + 7)
      have f8 := hfz (Aa.length * 12 + 8)
      have f9 := hfz (Aa.length * 12 + 9)
      have f10 := hfz (Aa.length * 12 + 10)
      have f11 := hfz (Aa.length * 12 + 11)
      have r1 := R1.out
      have m0 : w5.cell? ⟨w.heap.size + 1, 0, none⟩ = some (.int .i64 l.by_.node) := r1.cell 0
      have m1 : w5.cell? ⟨w.heap.size + 1, 1, none⟩ = some (.int .i64 l.by_.life) := r1.cell 1
      have m2 : w5.cell? ⟨w.heap.size + 1, 2, none⟩ = some (.int .i64 l.by_.seq) := r1.cell 2
      have m3 : w5.cell? ⟨w.heap.size + 1, 3, none⟩ = some (.int .i64 l.by_.attempt) := r1.cell 3
      have m4 : w5.cell? ⟨w.heap.size + 1, 4, none⟩ = some (.int .i64 l.home) := r1.cell 4
      have m5 : w5.cell? ⟨w.heap.size + 1, 5, none⟩ = some (.int .i64 l.at_.wall) := r1.cell 5
      have m6 : w5.cell? ⟨w.heap.size + 1, 6, none⟩ = some (.int .i64 l.at_.tie) := r1.cell 6
      have m7 : w5.cell? ⟨w.heap.size + 1, 7, none⟩ = some (.bool x.drop) := r1.cell 7
      have m8 : w5.cell? ⟨w.heap.size + 1, 8, none⟩ = some (.string (str x.data)) := r1.cell 8
      have hne1 : g ≠ w.heap.size + 1 := by omega
      have z5 := r1.lt
      clear r1 hfz hn5 hn5' hlt
      go_region
      go_wp2
      go_ret
      have hup := Hown5.out.upd (W := setsW w5 g (Aa.length * 12 + 2) [.bool true, .int .i64 l.by_.node, .int .i64 l.by_.life, .int .i64 l.by_.seq, .int .i64 l.by_.attempt, .int .i64 l.home, .int .i64 l.at_.wall, .int .i64 l.at_.tie, .bool x.drop, .string (str x.data)]) (lockW x l) rfl (by rw [lockCs, Hlk.out])
      rw [E5.out]
      simp only [setsW] at hup
      refine ⟨_, rfl, (hup.1.keepAll ((Same.refl _ _).drew)).lower (by omega), ?_⟩
      exact HS5.out.trans' hup.2.drew fun q hq _ => by omega
  · rw [hd] at b1
    have hlk : lckCs (lockW x l) = [.int .i64 l.by_.node, .int .i64 l.by_.life, .int .i64 l.by_.seq, .int .i64 l.by_.attempt, .int .i64 l.home, .int .i64 l.at_.wall, .int .i64 l.at_.tie, .bool x.drop, .string ⟨#[]⟩] := by simp [lck_of, lockW, hd, str]
    have Hlk := Lib.hid hlk
    have Hd := Lib.hid hd
    clear hlk hd
    go_wp2_with (go_at_call 67; refine stopAt ?_)
    unfold Hid
    have r1 := R1.out.set_ 8 (.string ⟨#[]⟩)
    have hS1 : Same (fun q => q ≠ w.heap.size + 1) W1 (W1.setCell ⟨w.heap.size + 1, 8, none⟩ (.string ⟨#[]⟩)) := (Same.refl _ _).setCell (fun _ h => h rfl) _
    have hsz1 : (W1.setCell ⟨w.heap.size + 1, 8, none⟩ (.string ⟨#[]⟩)).heap.size = w.heap.size + 2 := by rw [← Hsz.out]; simp [World.setCell]
    generalize W1.setCell ⟨w.heap.size + 1, 8, none⟩ (.string ⟨#[]⟩) = W2 at *
    have r1 : Row W2 (w.heap.size + 1) 30 [.int .i64 l.by_.node, .int .i64 l.by_.life, .int .i64 l.by_.seq, .int .i64 l.by_.attempt, .int .i64 l.home, .int .i64 l.at_.wall, .int .i64 l.at_.tie, .bool x.drop, .string ⟨#[]⟩] := r1
    have r0 := R0.out.keep hS1 (by omega)
    have R0 := Lib.hid r0
    have R1 := Lib.hid r1
    have Hsz := Lib.hid hsz1
    have hS2 : Same (fun _ => True) w W2 := HS0.out.trans' hS1 fun q hq _ => by omega
    have HS0 := Lib.hid hS2
    clear r0 r1 hS1 hsz1 hS2 b0
    have hsz2 := Hsz.out
    refine (all_any (.slice A cs.length cp) cs S W2 (Hv.out.keepAll HS0.out) hn Hn2.out).mono ?_
    rintro e w3 ⟨v3, rfl, hown3, hS3⟩
    obtain ⟨A3, n3, c3, rfl, hl3, hm3⟩ := hown3.form3
    unfold maxLen at hm3
    have r0 := R0.out.keep hS3 trivial
    have r1 := R1.out.keep hS3 trivial
    have b0 : w3.cell? ⟨w.heap.size, 0, none⟩ = some (.string (str x.key)) := r0.cell 0
    have z1 := r1.lt
    have R0 := Lib.hid r0
    have R1 := Lib.hid r1
    have Hown3 := Lib.hid hown3
    have hS03 := HS0.out.trans hS3
    have HS0 := Lib.hid hS03
    have hz3 := hS3.size
    clear r0 r1 hown3 hS3 hS03 b1 l8 f8
    go_wp2_with (go_at_call 68; refine stopAt ?_)
    unfold Hid
    refine (mvfind_any (.slice A3 n3 c3) cs x.key _ w3 Hown3.out.reads Hso.out (by omega)).mono ?_
    rintro e w4 ⟨rfl, hS4⟩
    rw [e6, e7]
    have r0 := R0.out.keep hS4 trivial
    have r1 := R1.out.keep hS4 trivial
    have b0 : w4.cell? ⟨w.heap.size, 0, none⟩ = some (.string (str x.key)) := r0.cell 0
    have z1 := r1.lt
    have R0 := Lib.hid r0
    have R1 := Lib.hid r1
    have hown4 := Hown3.out.keepAll hS4
    rw [E1.out] at hown4
    have hS04 := HS0.out.trans hS4
    have HS0 := Lib.hid hS04
    have hz4 := hS4.size
    have hB : W2.heap.size ≤ w4.heap.size := by omega
    have Hown4 := Lib.hid hown4
    clear r0 r1 hS4 hS04 hown4
    cases o with
    | some c =>
      obtain ⟨w5, hw5⟩ : ∃ w5, w5 = w4 := ⟨_, rfl⟩
      subst hw5
      have hown5 := Hown4.out
      simp only [Option.toList_some, List.singleton_append] at hown5
      have Hown5 := Lib.hid hown5
      have HS5 := HS0
      rw [Option.getD_some] at E5
      clear hown5 e6 e7 Hown4
      go_wp2
      have hlt : Aa.length < (Aa ++ c :: Z).length := by simp
      obtain ⟨g, n5, cap5, hv5, hn5, hc5, hm5, hBg, hg5, hfz⟩ := Hown5.out.head (by rw [List.length_append, List.length_cons]; omega)
      injection hv5 with hv5 hv6 hv7
      subst hv5 hv6 hv7
      have hn5' : n3 = Aa.length + 1 + Z.length := by rw [hn5]; simp; omega
      obtain ⟨k2, k3, k4, k5, k6, k7, k8, k9, k10, k11, y2, y3, y4, y5, y6, y7, y8, y9, y10, y11⟩ := Hown5.out.at12 hlt
      have q1 : (0 : Int) ≤ (Aa.length : Int) := by omega
      have q2 : (Aa.length : Int) < (n3 : Int) := by omega
      have f2 := hfz (Aa.length * 12 + 2)
      have f3 := hfz (Aa.length * 12 + 3)
      have f4 := hfz (Aa.length * 12 + 4)
      have f5 := hfz (Aa.length * 12 + 5)
      have f6 := hfz (Aa.length * 12 + 6)
      have f7 := hfz (Aa.length * 12 + 7)
      have f8 := hfz (Aa.length * 12 + 8)
      have f9 := hfz (Aa.length * 12 + 9)
      have f10 := hfz (Aa.length * 12 + 10)
      have f11 := hfz (Aa.length * 12 + 11)
      have r1 := R1.out
      have m0 : w5.cell? ⟨w.heap.size + 1, 0, none⟩ = some (.int .i64 l.by_.node) := r1.cell 0
      have m1 : w5.cell? ⟨w.heap.size + 1, 1, none⟩ = some (.int .i64 l.by_.life) := r1.cell 1
      have m2 : w5.cell? ⟨w.heap.size + 1, 2, none⟩ = some (.int .i64 l.by_.seq) := r1.cell 2
      have m3 : w5.cell? ⟨w.heap.size + 1, 3, none⟩ = some (.int .i64 l.by_.attempt) := r1.cell 3
      have m4 : w5.cell? ⟨w.heap.size + 1, 4, none⟩ = some (.int .i64 l.home) := r1.cell 4
      have m5 : w5.cell? ⟨w.heap.size + 1, 5, none⟩ = some (.int .i64 l.at_.wall) := r1.cell 5
      have m6 : w5.cell? ⟨w.heap.size + 1, 6, none⟩ = some (.int .i64 l.at_.tie) := r1.cell 6
      have m7 : w5.cell? ⟨w.heap.size + 1, 7, none⟩ = some (.bool x.drop) := r1.cell 7
      have m8 : w5.cell? ⟨w.heap.size + 1, 8, none⟩ = some (.string ⟨#[]⟩) := r1.cell 8
      have hne1 : g ≠ w.heap.size + 1 := by omega
      have z5 := r1.lt
      clear r1 hfz hn5 hn5' hlt
      go_region
      go_wp2
      go_ret
      have hup := Hown5.out.upd (W := setsW w5 g (Aa.length * 12 + 2) [.bool true, .int .i64 l.by_.node, .int .i64 l.by_.life, .int .i64 l.by_.seq, .int .i64 l.by_.attempt, .int .i64 l.home, .int .i64 l.at_.wall, .int .i64 l.at_.tie, .bool x.drop, .string ⟨#[]⟩]) (lockW x l) rfl (by rw [lockCs, Hlk.out])
      rw [E5.out]
      simp only [setsW] at hup
      refine ⟨_, rfl, (hup.1.keepAll ((Same.refl _ _).drew)).lower (by omega), ?_⟩
      exact HS5.out.trans' hup.2.drew fun q hq _ => by omega
    | none =>
      have hown5 := Hown4.out
      simp only [Option.toList_none, List.nil_append] at hown5
      have Hown4 := Lib.hid hown5
      rw [Option.getD_none] at E5
      have E1' : cs = Aa ++ Z := by have := E1.out; simpa using this
      have HE1 := Lib.hid E1'
      have hlA : Aa.length ≤ (Aa ++ Z).length := by simp
      have hlc : (Aa ++ Z).length ≤ 1000000 := by rw [← E1']; omega
      have hsb := (Same.refl (fun _ => True) w4).alloc (.cells (celCs (.slice none 0 0, freshC x.key)).toArray 64)
      have gi := insC_any (.slice A3 n3 c3) (Aa ++ Z) x.key Aa.length w4.heap.size W2.heap.size (w4.alloc (.cells (celCs (.slice none 0 0, freshC x.key)).toArray 64)) (hown5.keepAll hsb) (Row.new _ _ _) (fun e => by
        obtain ⟨us, _, u2, _⟩ := hown5
        have := (u2.lt_ e).2
        omega) hlA hlc (by have := hsb.size; omega)
      rw [List.take_left, List.drop_left] at gi
      have hown6 : ∀ k, (Value.slice A3 n3 c3).ownBlock = some k → W2.heap.size ≤ k := fun k e => by
        obtain ⟨us, _, u2, _⟩ := hown5
        exact (u2.lt_ e).1
      have Hown6 := Lib.hid hown6
      have Gi := Lib.hid gi
      have Hsb := Lib.hid hsb
      clear hown5 hown6 e6 e7 E1' hlA hlc gi hsb
      go_wp2_with (go_at_call 69; refine stopAt ?_)
      unfold Hid
      refine Gi.out.mono ?_
      rintro e w5 ⟨v5, rfl, hown5, hS5⟩
      have hS45 : Same (fun q => q < W2.heap.size) w4 w5 := (Hsb.out.mono fun _ _ _ => trivial).trans (hS5.mono fun q _ hq e => by have := Hown6.out q e.symm; omega)
      have r1 := R1.out.keep hS45 (by omega)
      have R1 := Lib.hid r1
      have hS05 : Same (fun _ => True) w w5 := HS0.out.trans' hS45 fun q hq _ => by omega
      have HS5 := Lib.hid hS05
      have Hown5 := Lib.hid hown5
      clear r1 hS45 hS05 hown5 hS5 z1 Gi
      go_wp2
      have hlt : Aa.length < (Aa ++ freshC x.key :: Z).length := by simp
      obtain ⟨g, n5, cap5, hv5, hn5, hc5, hm5, hBg, hg5, hfz⟩ := Hown5.out.head (by rw [List.length_append, List.length_cons]; omega)
      subst hv5
      have hn5' : n5 = Aa.length + 1 + Z.length := by rw [hn5]; simp; omega
      obtain ⟨k2, k3, k4, k5, k6, k7, k8, k9, k10, k11, y2, y3, y4, y5, y6, y7, y8, y9, y10, y11⟩ := Hown5.out.at12 hlt
      have q1 : (0 : Int) ≤ (Aa.length : Int) := by omega
      have q2 : (Aa.length : Int) < (n5 : Int) := by omega
      have f2 := hfz (Aa.length * 12 + 2)
      have f3 := hfz (Aa.length * 12 + 3)
      have f4 := hfz (Aa.length * 12 + 4)
      have f5 := hfz (Aa.length * 12 + 5)
      have f6 := hfz (Aa.length * 12 + 6)
      have f7 := hfz (Aa.length * 12 + 7)
      have f8 := hfz (Aa.length * 12 + 8)
      have f9 := hfz (Aa.length * 12 + 9)
      have f10 := hfz (Aa.length * 12 + 10)
      have f11 := hfz (Aa.length * 12 + 11)
      have r1 := R1.out
      have m0 : w5.cell? ⟨w.heap.size + 1, 0, none⟩ = some (.int .i64 l.by_.node) := r1.cell 0
      have m1 : w5.cell? ⟨w.heap.size + 1, 1, none⟩ = some (.int .i64 l.by_.life) := r1.cell 1
      have m2 : w5.cell? ⟨w.heap.size + 1, 2, none⟩ = some (.int .i64 l.by_.seq) := r1.cell 2
      have m3 : w5.cell? ⟨w.heap.size + 1, 3, none⟩ = some (.int .i64 l.by_.attempt) := r1.cell 3
      have m4 : w5.cell? ⟨w.heap.size + 1, 4, none⟩ = some (.int .i64 l.home) := r1.cell 4
      have m5 : w5.cell? ⟨w.heap.size + 1, 5, none⟩ = some (.int .i64 l.at_.wall) := r1.cell 5
      have m6 : w5.cell? ⟨w.heap.size + 1, 6, none⟩ = some (.int .i64 l.at_.tie) := r1.cell 6
      have m7 : w5.cell? ⟨w.heap.size + 1, 7, none⟩ = some (.bool x.drop) := r1.cell 7
      have m8 : w5.cell? ⟨w.heap.size + 1, 8, none⟩ = some (.string ⟨#[]⟩) := r1.cell 8
      have hne1 : g ≠ w.heap.size + 1 := by omega
      have z5 := r1.lt
      clear r1 hfz hn5 hn5' hlt
      go_region
      go_wp2
      go_ret
      have hup := Hown5.out.upd (W := setsW w5 g (Aa.length * 12 + 2) [.bool true, .int .i64 l.by_.node, .int .i64 l.by_.life, .int .i64 l.by_.seq, .int .i64 l.by_.attempt, .int .i64 l.home, .int .i64 l.at_.wall, .int .i64 l.at_.tie, .bool x.drop, .string ⟨#[]⟩]) (lockW x l) rfl (by rw [lockCs, Hlk.out])
      rw [E5.out]
      simp only [setsW] at hup
      refine ⟨_, rfl, (hup.1.keepAll ((Same.refl _ _).drew)).lower (by omega), ?_⟩
      exact HS5.out.trans' hup.2.drew fun q hq _ => by omega
end Go.Proofs.Ytoldelocfmpccaa
set_option linter.unusedSimpArgs false
set_option linter.unusedVariables false
namespace Go.Proofs.Ytoldelocfmpccaa
open Go.RowKit

section
variable {P : Program} {t e : TypeId} {size bytes : Nat} {z : Value}
theorem run_app (T : SlT P t e size bytes z) (w : World) (ty : TypeId) (base : Nat) (v : Value) (n : Nat) (xs : List Value) (hown : w.ownsRow base e size v n xs)
    (S : Nat → Prop) (A : Option Addr) (m c : Nat) (news : List Value) (hr : Sl w S size A m news) (h1 : ∀ u ∈ news, u.oneCell' = true)
    (h63 : n + m ≤ maxLen) (hbytes : (n + m) * bytes ≤ 140737488355328) (hbase : base ≤ w.heap.size) :
    ∃ v' w', (Builtin.append_ #[t, t] ty #[v, .slice A m c]).run P w = .ok v' w' ∧ w'.ownsRow base e size v' (n + m) (xs ++ news) ∧ Same (fun k => some k ≠ v.ownBlock) w w' := by
  obtain ⟨i, hi, hz, h4, h5⟩ := info_parts T.info
  rcases A with _ | ad
  · have hm : m = 0 := by
      rcases Nat.eq_zero_or_pos m with h0 | h0
      · exact h0
      · obtain ⟨ad, h, _⟩ := hr.2 h0
        cases h
    subst hm
    have hn : news = [] := List.eq_nil_of_length_eq_zero (by simpa using hr.1)
    subst hn
    refine ⟨v, w, ?_, by simpa using hown, Same.refl _ _⟩
    rcases hown.2 with ⟨rfl, rfl⟩ | ⟨g, cap, cur, rfl, _, _, hnc, _⟩
    · simp [Builtin.append_, run_underlying T.und, sizeOf, typeInfo, hi, Builtin.lenOf, Builtin.firstCells]
    · simp [Builtin.append_, run_underlying T.und, sizeOf, typeInfo, hi, Builtin.lenOf, Builtin.firstCells, hnc, storeCells]
  · have hcells : ∀ j u, news[j]? = some u → w.cell? (ad.add j) = some u := by
      intro j u hu
      rcases Nat.eq_zero_or_pos m with h0 | h0
      · subst h0
        have hn : news = [] := List.eq_nil_of_length_eq_zero (by simpa using hr.1)
        subst hn
        simp at hu
      · obtain ⟨ad', h, _, hc⟩ := hr.2 h0
        injection h with h
        subst h
        exact hc j u hu
    obtain ⟨v', w', hrun, h2, h3, _, _⟩ := run_append_own_at (P := P) w base t ty e i z size bytes T.und hi hz h4 h5 T.zs T.pos v n xs hown ad m c news hr.1 hcells h1 h63 hbytes hbase
    exact ⟨v', w', hrun, h2, Same.ofGrown h3⟩
theorem step_appR {α : Type} {f : α → List Value} (T : SlT P t e size bytes z) (hf : ∀ x, (f x).length = size) {w : World} {ops : Array Oper} {o : Oper} {a : Act} {K : Act → World → Prop} {Q : Exit → Act → World → Prop} {E : Prop} (hgd : o.guard = none) (s x : Operand)
    (ho : o.op = .call { callee := .builtin .append, args := #[s, x], argTypes := #[t, t] }) {B : Nat} {v : Value} {l l2 : List α} {S : Nat → Prop} {A : Option Addr} {m c : Nat}
    (hs : a.eval s = v) (hx : a.eval x = .slice A m c) (hown : OwnR f size e w B v l) (hr : Sl w S size A m (l2.flatMap f)) (hm : m = l2.length) (h1 : ∀ y ∈ l2, ∀ u ∈ f y, u.oneCell' = true) (hB : B ≤ w.heap.size) (hlen : l.length + m ≤ 1000001) (hb : bytes ≤ 1000)
    (h : ∀ v' w', Hid (OwnR f size e w' B v' (l ++ l2)) → Hid (Same (fun k => some k ≠ v.ownBlock) w w') → K (a.put o.dst v') w') : if Region.wanted o (yielded ops a.tmps) = true then Oper.wp P o a w K Q else E := by
  subst hm
  have hbb : (l.length + l2.length) * bytes ≤ 140737488355328 := Nat.le_trans (Nat.mul_le_mul hlen hb) (by decide)
  obtain ⟨v', w', hrun, h2, h3⟩ := run_app T w o.type B v l.length (l.flatMap f) hown S A l2.length c (l2.flatMap f) hr (fun u hu => by
    obtain ⟨y, hy, hu⟩ := List.mem_flatMap.1 hu
    exact h1 y hy u hu) (by simp only [maxLen]; omega) hbb hB
  have hw : Region.wanted o (yielded ops a.tmps) = true := by simp [Region.wanted, hgd]
  rw [if_pos hw]
  unfold Oper.wp execOp
  simp only [ho, resolve, invoke, builtin, Sem.run_bind, Sem.run_pure, Result.andThen_ok, List.map_toArray, List.map_cons, List.map_nil, hs, hx, hrun]
  refine h v' w' (Lib.hid ?_) (Lib.hid h3)
  unfold OwnR
  rw [List.length_append, List.flatMap_append]
  exact h2
end
theorem own_emptyAt {α : Type} (f : α → List Value) (n : Nat) {e : TypeId} {w : World} {B N : Nat} (h : w.heap[N]? = some (.cells #[] e (0, 0))) (hB : B ≤ N) : OwnR f n e w B (.slice (some ⟨N, 0, none⟩) 0 0) [] :=
  ⟨by simp, .inr ⟨N, 0, #[], rfl, hB, h, by simp, by simp [maxLen], by simp, by simp⟩⟩
theorem row_sl1 {w : World} {X : Nat} {q : Value × Cel} (h : Row w X 64 (celCs q)) : Sl w (fun _ => True) 12 (some ⟨X, 0, none⟩) 1 (([q] : List (Value × Cel)).flatMap celCs) := by
  have hsl := h.sl (size := 12) (off := 0) (n := 1) (by rw [celCs_len]; omega)
  rw [List.drop_zero, List.take_of_length_le (by rw [celCs_len]; omega)] at hsl
  have : ([q] : List (Value × Cel)).flatMap celCs = celCs q := by simp
  rw [this]
  exact hsl.mono (fun _ _ _ => trivial)
theorem zip_one {us : List Value} {cs : List Cel} (h : us.length = cs.length) (hs : ∀ i (h : i < cs.length) (h' : i < us.length), ∃ A n c, us[i] = .slice A n c) : ∀ y ∈ us.zip cs, ∀ u ∈ celCs y, u.oneCell' = true := by
  intro y hy
  obtain ⟨j, hj, rfl⟩ := List.mem_iff_getElem.1 hy
  have hj' : j < cs.length := by simp at hj; omega
  obtain ⟨A, n, c, e⟩ := hs j hj' (by omega)
  rw [List.getElem_zip, e]
  exact celCs_one _
end Go.Proofs.Ytoldelocfmpccaa
