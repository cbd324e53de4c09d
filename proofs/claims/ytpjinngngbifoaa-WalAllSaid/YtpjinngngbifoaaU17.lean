/-
  Words, plain models, laws and walks that the claims of this layer share (joined by shake.py). No condition.
-/
import Derived.RegionTactic
import Derived.Test.YtpjinngngbifoaaU1
import Derived.Test.YtpjinngngbifoaaU2
import Derived.Test.YtpjinngngbifoaaU3
import Derived.Test.YtpjinngngbifoaaU4
import Derived.Test.YtpjinngngbifoaaU5
import Derived.Test.YtpjinngngbifoaaU6
import Derived.Test.YtpjinngngbifoaaU7
import Derived.Test.YtpjinngngbifoaaU8
import Derived.Test.YtpjinngngbifoaaU9
import Derived.Test.YtpjinngngbifoaaU10
import Derived.Test.YtpjinngngbifoaaU11
import Derived.Test.YtpjinngngbifoaaU12
import Derived.Test.YtpjinngngbifoaaU13
import Derived.Test.YtpjinngngbifoaaU14
import Derived.Test.YtpjinngngbifoaaU15
import Derived.Test.YtpjinngngbifoaaU16
set_option linter.unusedSimpArgs false
set_option linter.unusedVariables false
namespace Go.Proofs.Ytpjinngngbifoaa
open Go.RowKit
structure PickM where
  f : Int
  gen : Nat
  recs : List (List UInt8)
  size : Nat
  spoil : Bool
def pick0 : PickM := ⟨-1, 0, [], 0, false⟩
def PickM.look (x : PickM) (f : Int) (m : Option LookM) (n : Nat) : PickM :=
  match m with
  | none => x
  | some m => if x.f < 0 ∨ x.gen < m.gen then ⟨f, m.gen, m.recs, n, m.spoil⟩ else x
def pickK (d : DiskM) (m0 m1 : Option LookM) : Nat → PickM
  | 0 => pick0
  | 1 => pick0.look 0 m0 d.f0.b.length
  | _ => (pick0.look 0 m0 d.f0.b.length).look 1 m1 d.f1.b.length
def walOf (d : DiskM) (k : PickM) : WalM := ⟨d.lives, false, k.f, k.gen, k.recs.length, k.size⟩
def openR (d : DiskM) (k : PickM) : Int × DiskM × Option (WalM × List (List UInt8)) :=
  if k.f < 0 ∨ k.spoil = true then
    (if (rewriteW d (walOf d k) k.recs).1 ≠ 0 then ((rewriteW d (walOf d k) k.recs).1, (rewriteW d (walOf d k) k.recs).2.1, none)
     else (0, (rewriteW d (walOf d k) k.recs).2.1, some ((rewriteW d (walOf d k) k.recs).2.2, k.recs)))
  else (0, d, some (walOf d k, k.recs))
def openW (d : DiskM) (m0 m1 : Option LookM) : Int × DiskM × Option (WalM × List (List UInt8)) :=
  if d.off = true then (6, d, none) else openR d (pickK d m0 m1 2)
theorem walkL_bytes : ∀ (l : List (List UInt8)) (whole : Bool) (acc : List (List UInt8)) x, walkL l whole acc = some x →
    (recsF (x.1.map (82 :: ·))).length + (if whole then 0 else 9) ≤ (recsF (acc.map (82 :: ·))).length + (recsF l).length
  | [], whole, acc, x, h => by
    simp only [walkL] at h
    split at h
    · rename_i hw
      injection h with h; subst h; simp [hw]
    · cases h
  | r :: rs, whole, acc, x, h => by
    rw [recsF_cons, List.length_append, recF_len]
    simp only [walkL] at h
    split at h
    · rename_i hr
      have ih := walkL_bytes rs _ _ x h
      have e : r = 82 :: r.tail := by cases r with | nil => simp at hr | cons a b => simp at hr; rw [hr]; rfl
      have e2 : (recsF ((acc ++ [r.tail]).map (82 :: ·))).length = (recsF (acc.map (82 :: ·))).length + (8 + r.length) := by
        rw [List.map_append, recsF_app, List.length_append]
        have : recsF (List.map (82 :: ·) [r.tail]) = recF r := by simp only [List.map_cons, List.map_nil, ← e]; simp [recsF]
        rw [this, recF_len]
      rw [e2] at ih
      omega
    · split at h
      · rename_i hw
        injection h with h; subst h; simp only [hw, if_true]; omega
      · split at h
        · rename_i hw he
          have ih := walkL_bytes rs _ _ x h
          have : r.length = 1 := by rw [he]; rfl
          simp at ih
          rw [if_neg hw]
          omega
        · cases h
theorem LookF.size {b : List UInt8} {m : LookM} (h : LookF b (some m)) : 1 ≤ m.gen ∧ m.gen < 4611686018427387904 ∧ 26 + 9 * m.recs.length + m.recs.flatten.length ≤ b.length := by
  obtain ⟨l, a, h1, h2⟩ := h
  have hb := h1.1.bytes
  have hle := h1.1.le
  cases l with
  | nil => simp [lookL] at h2
  | cons r rs =>
    simp only [lookL] at h2
    split at h2
    · cases h2
    rename_i h9
    split at h2
    · cases h2
    rename_i hg
    cases hw : walkL rs false [] with
    | none => rw [hw] at h2; cases h2
    | some x =>
      rw [hw] at h2
      simp only [Option.map_some] at h2
      injection h2 with h2
      have hx := walkL_bytes rs false [] x hw
      rw [appR_len] at hx
      have e0 : (recsF (([] : List (List UInt8)).map (82 :: ·))).length = 0 := rfl
      rw [e0] at hx
      simp only [Bool.false_eq_true, if_false] at hx
      have hl : (recsF (r :: rs)).length = a := by rw [hb, List.length_take]; omega
      rw [recsF_cons, List.length_append, recF_len] at hl
      have h9' : r.length = 9 := by
        have := not_or.1 h9
        exact Classical.not_not.1 this.1
      have hg' := not_or.1 hg
      rw [h2]
      exact ⟨by show 1 ≤ getN (r.drop 1); omega, by show getN (r.drop 1) < _; omega, by show 26 + 9 * x.1.length + x.1.flatten.length ≤ _; omega⟩
theorem PickM.look_fit {x : PickM} {f : Int} {m : Option LookM} {b : List UInt8} (hx : x.gen < 4611686018427387904 ∧ 9 * x.recs.length + x.recs.flatten.length ≤ 19000 ∧ x.size ≤ 19000) (hm : LookF b m) (hb : b.length ≤ 19000) :
    (x.look f m b.length).gen < 4611686018427387904 ∧ 9 * (x.look f m b.length).recs.length + (x.look f m b.length).recs.flatten.length ≤ 19000 ∧ (x.look f m b.length).size ≤ 19000 := by
  cases m with
  | none => exact hx
  | some m =>
    have := hm.size
    by_cases hc : x.f < 0 ∨ x.gen < m.gen
    · have e : x.look f (some m) b.length = ⟨f, m.gen, m.recs, b.length, m.spoil⟩ := if_pos hc
      rw [e]
      exact ⟨this.2.1, by show 9 * m.recs.length + m.recs.flatten.length ≤ _; omega, hb⟩
    · have e : x.look f (some m) b.length = x := if_neg hc
      rw [e]
      exact hx
theorem mem_flat_le {l : List (List UInt8)} {r : List UInt8} (h : r ∈ l) : r.length ≤ l.flatten.length := by
  induction l with
  | nil => cases h
  | cons a l ih =>
    rw [List.flatten_cons, List.length_append]
    rcases List.mem_cons.1 h with rfl | h
    · omega
    · have := ih h; omega
theorem pickK_fit {d : DiskM} {m0 m1 : Option LookM} (h0 : LookF d.f0.b m0) (h1 : LookF d.f1.b m1) (hb0 : d.f0.b.length ≤ 19000) (hb1 : d.f1.b.length ≤ 19000) : ∀ k,
    (pickK d m0 m1 k).gen < 4611686018427387904 ∧ 9 * (pickK d m0 m1 k).recs.length + (pickK d m0 m1 k).recs.flatten.length ≤ 19000 ∧ (pickK d m0 m1 k).size ≤ 19000
  | 0 => ⟨by show 0 < _; omega, by show 0 ≤ _; omega, by show 0 ≤ _; omega⟩
  | 1 => by
    show (pick0.look 0 m0 d.f0.b.length).gen < _ ∧ 9 * (pick0.look 0 m0 d.f0.b.length).recs.length + (pick0.look 0 m0 d.f0.b.length).recs.flatten.length ≤ _ ∧ (pick0.look 0 m0 d.f0.b.length).size ≤ _
    exact PickM.look_fit (x := pick0) ⟨by decide, by decide, by decide⟩ h0 hb0
  | _ + 2 => by
    show ((pick0.look 0 m0 d.f0.b.length).look 1 m1 d.f1.b.length).gen < _ ∧ 9 * ((pick0.look 0 m0 d.f0.b.length).look 1 m1 d.f1.b.length).recs.length + ((pick0.look 0 m0 d.f0.b.length).look 1 m1 d.f1.b.length).recs.flatten.length ≤ _ ∧ ((pick0.look 0 m0 d.f0.b.length).look 1 m1 d.f1.b.length).size ≤ _
    exact PickM.look_fit (PickM.look_fit (x := pick0) ⟨by decide, by decide, by decide⟩ h0 hb0) h1 hb1
/-- What holds in the loop of Open: the log's cells, what was picked so far. -/
def OpIn (w : World) (g : Nat) (d : DiskM) (y : PickM) (wr : World) : Prop :=
  Row wr w.heap.size 66 [ptr g, .int .i64 d.lives, .bool false, .int .i64 y.f, .int .u64 0, .int .i64 0, .int .i64 0] ∧ ∃ A c,
    Row wr (w.heap.size + 1) 80 [.int .u64 y.gen, .slice A y.recs.length c, .int .i64 y.size, .bool y.spoil] ∧ ByL wr (fun q => w.heap.size + 1 < q) (.slice A y.recs.length c) y.recs ∧ Same (fun _ => True) w wr
theorem OpIn.keepAll {w wr W : World} {g : Nat} {d : DiskM} {y : PickM} (h : OpIn w g d y wr) (hs : Same (fun _ => True) wr W) : OpIn w g d y W := by
  obtain ⟨h1, A, c, h2, h3, h4⟩ := h
  exact ⟨Row.keep h1 hs trivial, A, c, Row.keep h2 hs trivial, h3.keepAll hs, h4.trans hs⟩
theorem OpIn.start (w : World) (g : Nat) (d : DiskM) : OpIn w g d pick0 ((w.alloc (.cells #[ptr g, .int .i64 d.lives, .bool false, .int .i64 (-1), .int .u64 0, .int .i64 0, .int .i64 0] 66)).alloc (.cells #[.int .u64 0, .slice none 0 0, .int .i64 0, .bool false] 80)) := by
  refine ⟨Row.keep (Row.new w 66 [ptr g, .int .i64 d.lives, .bool false, .int .i64 (-1), .int .u64 0, .int .i64 0, .int .i64 0]) ((Same.refl (fun _ => True) _).alloc _) trivial, none, 0, ?_, ⟨none, 0, [], rfl, by simp [pick0], by simp [maxLen], Sl.nil _ _ _ _, by simp⟩, ((Same.refl _ _).alloc _).alloc _⟩
  have := Row.new (w.alloc (.cells #[ptr g, .int .i64 d.lives, .bool false, .int .i64 (-1), .int .u64 0, .int .i64 0, .int .i64 0] 66)) 80 [.int .u64 0, .slice none 0 0, .int .i64 0, .bool false]
  rw [size_alloc1] at this
  exact this
theorem OpIn.take {w wR : World} {g : Nat} {d : DiskM} {y : PickM} {Ay A4 : Option Addr} {cy c4 : Nat} {recs : List (List UInt8)} (h1 : Row wR w.heap.size 66 [ptr g, .int .i64 d.lives, .bool false, .int .i64 y.f, .int .u64 0, .int .i64 0, .int .i64 0])
    (h2 : Row wR (w.heap.size + 1) 80 [.int .u64 y.gen, .slice Ay y.recs.length cy, .int .i64 y.size, .bool y.spoil]) (h3 : ByL wR (fun q => w.heap.size + 1 < q) (.slice A4 recs.length c4) recs) (hs : Same (fun _ => True) w wR) (k : Nat) (gen : Nat) (sp : Bool) (n : Nat) :
    OpIn w g d ⟨k, gen, recs, n, sp⟩ (((((wR.setCell ⟨w.heap.size, 3, none⟩ (.int .i64 k)).setCell ⟨w.heap.size + 1, 0, none⟩ (.int .u64 gen)).setCell ⟨w.heap.size + 1, 1, none⟩ (.slice A4 recs.length c4)).setCell ⟨w.heap.size + 1, 2, none⟩ (.int .i64 n)).setCell ⟨w.heap.size + 1, 3, none⟩ (.bool sp)) := by
  have hsA : Same (fun q => q ≠ w.heap.size) wR (wR.setCell ⟨w.heap.size, 3, none⟩ (.int .i64 k)) := (Same.refl _ _).setCell (fun _ h => h rfl) _
  have hsB := row4_same (W := wR.setCell ⟨w.heap.size, 3, none⟩ (.int .i64 k)) (k := w.heap.size + 1) (.int .u64 gen) (.slice A4 recs.length c4) (.int .i64 n) (.bool sp)
  have hsAB := (hsA.mono (S' := fun q => q ≠ w.heap.size ∧ q ≠ w.heap.size + 1) fun _ _ h => h.1).trans (hsB.mono fun _ _ h => h.2)
  refine ⟨Row.keep (h1.set_ 3 (.int .i64 k)) hsB (by omega), A4, c4, ((((Row.keep h2 hsA (by omega)).set_ 0 (.int .u64 gen)).set_ 1 (.slice A4 recs.length c4)).set_ 2 (.int .i64 n)).set_ 3 (.bool sp), h3.keep (hsAB.mono fun q _ hq => by omega), ?_⟩
  exact hs.trans' hsAB fun q hq _ => by omega
theorem open_wal {w wR : World} {g r : Nat} {F : Nat → Prop} {d : DiskM} {y : PickM} (h : DiskAt w g r F d) (hF : ∀ k, F k → k < w.heap.size ∧ k ≠ g ∧ k ≠ r) (h1 : Row wR w.heap.size 66 [ptr g, .int .i64 d.lives, .bool false, .int .i64 y.f, .int .u64 0, .int .i64 0, .int .i64 0]) (hs : Same (fun _ => True) w wR) :
    LogAt (((wR.setCell ⟨w.heap.size, 4, none⟩ (.int .u64 y.gen)).setCell ⟨w.heap.size, 5, none⟩ (.int .i64 y.recs.length)).setCell ⟨w.heap.size, 6, none⟩ (.int .i64 y.size)) w.heap.size g r F d (walOf d y) ∧
    Same (fun q => q ≠ w.heap.size) wR (((wR.setCell ⟨w.heap.size, 4, none⟩ (.int .u64 y.gen)).setCell ⟨w.heap.size, 5, none⟩ (.int .i64 y.recs.length)).setCell ⟨w.heap.size, 6, none⟩ (.int .i64 y.size)) := by
  have hS : Same (fun q => q ≠ w.heap.size) wR (((wR.setCell ⟨w.heap.size, 4, none⟩ (.int .u64 y.gen)).setCell ⟨w.heap.size, 5, none⟩ (.int .i64 y.recs.length)).setCell ⟨w.heap.size, 6, none⟩ (.int .i64 y.size)) :=
    (((Same.refl _ _).setCell (fun _ h => h rfl) _).setCell (fun _ h => h rfl) _).setCell (fun _ h => h rfl) _
  have hg := h.2.1
  have hr := h.2.2.1
  refine ⟨⟨(h.keepAll hs).keep hS (by omega) (by omega) (fun k hk => by have := hF k hk; omega), ((h1.set_ 4 (.int .u64 y.gen)).set_ 5 (.int .i64 y.recs.length)).set_ 6 (.int .i64 y.size), fun e => by have := hF _ e; omega, by omega, by omega⟩, hS⟩
/-- One file more is looked at. -/
theorem pick_step {d : DiskM} {m0 m1 : Option LookM} (h0 : LookF d.f0.b m0) (h1 : LookF d.f1.b m1) (hoff : d.off = false) (hb0 : d.f0.b.length ≤ 19000) (hb1 : d.f1.b.length ≤ 19000) {k : Nat} (hk : k < 2) :
    ∃ B m, d.read (k : Int) = (B, 0) ∧ (d.file (k : Int)).b.length ≤ 4194304 ∧ LookF B m ∧ B.length ≤ 19000 ∧ pickK d m0 m1 (k + 1) = (pickK d m0 m1 k).look k m B.length := by
  match k, hk with
  | 0, _ => exact ⟨d.f0.b, m0, by simp [DiskM.read, DiskM.may, hoff, DiskM.file], by show d.f0.b.length ≤ _; omega, h0, hb0, rfl⟩
  | 1, _ => exact ⟨d.f1.b, m1, by simp [DiskM.read, DiskM.may, hoff, DiskM.file], by show d.f1.b.length ≤ _; omega, h1, hb1, rfl⟩
def OpenPost (g r : Nat) (F : Nat → Prop) (w : World) (R : Int × DiskM × Option (WalM × List (List UInt8))) (e : Ending) (w' : World) : Prop :=
  ∃ pv A n c, e = .returned (.tuple #[pv, .slice A n c, .int .i64 R.1]) ∧ (∃ F', (∀ k, F' k → F k ∨ w.heap.size ≤ k) ∧
    match R.2.2 with
    | none => pv = .pointer none ∧ n = 0 ∧ DiskAt w' g r F' R.2.1
    | some (l, recs) => pv = ptr w.heap.size ∧ n = recs.length ∧ ByL w' (fun q => w.heap.size + 1 < q) (.slice A n c) recs ∧ LogAt w' w.heap.size g r F' R.2.1 l) ∧ Same (fun k => k ≠ g ∧ k ≠ r) w w'
set_option maxRecDepth 100000 in
set_option maxHeartbeats 4000000 in
theorem wopen_any (g r : Nat) (F : Nat → Prop) (d : DiskM) (m0 m1 : Option LookM) (w : World) (h : DiskAt w g r F d) (hd : d.Fit) (hds : d.steps + 3 < 1000000) (h0 : LookF d.f0.b m0) (h1 : LookF d.f1.b m1) (hb0 : d.f0.b.length ≤ 19000) (hb1 : d.f1.b.length ≤ 19000) :
    Calls Try.prog 15 #[ptr g] w (OpenPost g r F w (openW d m0 m1)) := by
  have hgw : g < w.heap.size := h.2.1
  have hrw : r < w.heap.size := h.2.2.1
  have hFw := h.2.2.2.2.1
  have hlv := dlives_any g r F d w h
  have HFW := Lib.hid hFw
  have H := Lib.hid h
  have H0 := Lib.hid h0
  have H1 := Lib.hid h1
  have HST := Lib.hid (OpIn.start w g d)
  obtain ⟨R, hR⟩ : ∃ R, R = openW d m0 m1 := ⟨_, rfl⟩
  rw [← hR]
  have HR := Lib.hid hR
  clear hR h h0 h1 hFw
  by_cases hoff : d.off = true
  · have HR2 : Hid (R = (6, d, none)) := Lib.hid (by rw [HR.out]; unfold openW; rw [if_pos hoff])
    have hrd : Hid (d.read 0 = ([], 6)) := Lib.hid (by simp [DiskM.read, DiskM.may, hoff])
    have hlen0 : (d.file 0).b.length ≤ 4194304 := by show d.f0.b.length ≤ _; omega
    clear hoff HR
    go_enter Try.func15, Try.ntmps15
    go_wp2_with (go_at_call 38; refine hlv.mono ?_; rintro e w1 ⟨rfl, rfl⟩)
    go_loopw [2, 17] (fun pv i wr => pv = ptr w.heap.size ∧ i = .int .i64 0 ∧ Hid (OpIn w g d pick0 wr)) (fun _ i _ => 0)
    case atStart => exact ⟨rfl, rfl, HST⟩
    case round =>
      obtain ⟨rfl, rfl, HI⟩ := hrel
      have hcl := dread_any g r F d 0 wr (H.out.keepAll HI.out.2.choose_spec.choose_spec.2.2) hlen0
      rw [hrd.out] at hcl
      clear hlv
      go_wp2_with (go_at_call 39; refine hcl.mono ?_; rintro e w2 ⟨v2, rfl, hown2, hs2⟩; obtain ⟨A2, c2, rfl, -, -⟩ := own_cap hown2)
      refine bodyPost_ret (v := .tuple #[.pointer none, .slice none 0 0, .int .i64 6]) (by simp [results, Try.results15, go_sem]) rfl ?_
      have hS := HI.out.2.choose_spec.choose_spec.2.2.trans hs2
      refine ⟨.pointer none, none, 0, 0, by rw [HR2.out], ⟨F, fun _ h => Or.inl h, ?_⟩, hS.mono fun _ _ _ => trivial⟩
      rw [HR2.out]
      exact ⟨rfl, rfl, H.out.keepAll hS⟩
  have hoff' : d.off = false := by simpa using hoff
  have HR2 : Hid (R = openR d (pickK d m0 m1 2)) := Lib.hid (by rw [HR.out]; unfold openW; rw [if_neg hoff])
  have HOFF := Lib.hid hoff'
  have HFIT := Lib.hid (pickK_fit H0.out H1.out hb0 hb1 2)
  clear hoff hoff' HR
  go_enter Try.func15, Try.ntmps15
  go_wp2_with (go_at_call 38; refine hlv.mono ?_; rintro e w1 ⟨rfl, rfl⟩)
  go_loopw [2, 17] (fun pv i wr => pv = ptr w.heap.size ∧ ∃ k : Nat, k ≤ 2 ∧ i = .int .i64 k ∧ Hid (OpIn w g d (pickK d m0 m1 k) wr)) (fun _ i _ => 2 - (intOf i).toNat)
  case atStart => exact ⟨rfl, 0, by omega, rfl, HST⟩
  case round =>
    obtain ⟨rfl, k, hk, rfl, HI⟩ := hrel
    obtain ⟨wo, rfl⟩ : ∃ wo : World, wo = wr := ⟨_, rfl⟩
    clear HST
    by_cases hkN : k < 2
    · obtain ⟨B, m, hrd, hfl, hlk, hB, hpk⟩ := pick_step H0.out H1.out HOFF.out hb0 hb1 hkN
      obtain ⟨y, hy⟩ : ∃ y, y = pickK d m0 m1 k := ⟨_, rfl⟩
      rw [← hy] at HI hpk
      have HPK := Lib.hid hpk
      have HLK := Lib.hid hlk
      have hS0 := HI.out.2.choose_spec.choose_spec.2.2
      have hzo : w.heap.size + 2 ≤ wo.heap.size := by have := Row.lt HI.out.2.choose_spec.choose_spec.1; omega
      have hcl := dread_any g r F d k wo (H.out.keepAll hS0) hfl
      rw [hrd] at hcl
      clear hpk hlk hrd hy hfl
      go_wp2_with (go_at_call 39; refine hcl.mono ?_; rintro e w2 ⟨v2, rfl, hown2, hs2⟩; obtain ⟨A2, c2, rfl, -, -⟩ := own_cap hown2)
      have hlook := look_any _ B _ w2 (own_by hown2) (by omega)
      have HS2 := Lib.hid hs2
      clear hcl hs2 hown2
      go_wp2_with (go_at_call 40; refine stopAt ?_)
      unfold Hid
      refine hlook.mono ?_
      rintro e w3 ⟨gx, A4, n4, c4, nx, sp, ok, m', rfl, hlf, hs3, hm'⟩
      obtain rfl := hlf.uniq HLK.out
      have hS3 := HS2.out.trans hs3
      have HI3 := Lib.hid (HI.out.keepAll hS3)
      clear hlook hs3 hlf hS0 HI
      have HI := HI3
      clear HI3
      obtain ⟨hr1, Ay, cy, hr2, hby, hsw⟩ := HI.out
      have p0 := hr1.cell 0
      have p1 := hr1.cell 1
      have p2 := hr1.cell 2
      have p3 := hr1.cell 3
      have p4 := hr1.cell 4
      have p5 := hr1.cell 5
      have p6 := hr1.cell 6
      have n0 := hr2.cell 0
      have n1 := hr2.cell 1
      have n2 := hr2.cell 2
      have n3 := hr2.cell 3
      have lt1 := hr1.lt
      have lt2 := hr2.lt
      simp at p0 p1 p2 p3 p4 p5 p6 n0 n1 n2 n3
      have HR1 := Lib.hid hr1
      have HR2' := Lib.hid hr2
      have HBY := Lib.hid hby
      have HSW := Lib.hid hsw
      clear hr1 hr2 hby hsw
      rcases m' with _ | x
      · subst hm'
        go_wp2
        go_roundw
        case rel =>
          refine ⟨rfl, k + 1, by omega, by go_num, Lib.hid ?_⟩
          rw [HPK.out]
          exact OpIn.keepAll ⟨HR1.out, Ay, cy, HR2'.out, HBY.out, HSW.out⟩ ((Same.refl _ _).alloc _)
        case measure => simp [intOf]; omega
      obtain ⟨rfl, rfl, rfl, rfl, rfl, hby4⟩ := hm'
      have HBY4 := Lib.hid hby4
      have hby4w : Hid (ByL w3 (fun q => w.heap.size + 1 < q) (.slice A4 x.recs.length c4) x.recs) := Lib.hid (hby4.mono fun q _ hq => by have := HS2.out.size; have hz0 := hzo; omega)
      clear hby4 p0 p1 p2 p4 p5 p6 n1 n2 n3 HLK
      by_cases hyf : y.f < 0
      · have hyd : decide (y.f < 0) = true := decide_eq_true hyf
        have hpk2 : Hid (pickK d m0 m1 (k + 1) = ⟨k, x.gen, x.recs, B.length, x.spoil⟩) := Lib.hid (by rw [HPK.out]; exact if_pos (Or.inl hyf))
        clear hyf
        go_wp2
        have hal : Same (fun _ => True) w3 (w3.alloc (.cells #[.int .u64 x.gen, .slice A4 x.recs.length c4, .int .i64 B.length, .bool x.spoil] 80)) := (Same.refl _ _).alloc _
        have hrow := Row.new w3 80 [.int .u64 x.gen, .slice A4 x.recs.length c4, .int .i64 B.length, .bool x.spoil]
        revert hrow hal
        generalize w3.alloc (.cells #[.int .u64 x.gen, .slice A4 x.recs.length c4, .int .i64 B.length, .bool x.spoil] 80) = wa
        intro hal hrow
        have h1 := Row.keep HR1.out hal trivial
        have h2 := Row.keep HR2'.out hal trivial
        have HSa := Lib.hid (HSW.out.trans hal)
        have HBa := Lib.hid (hby4w.out.keepAll hal)
        have q0 := hrow.cell 0
        have q1 := hrow.cell 1
        have q2 := hrow.cell 2
        have q3 := hrow.cell 3
        have lt3 := hrow.lt
        clear hrow hal p3 n0 lt1 lt2 hby4w
        have p3 := h1.cell 3
        have n0 := h2.cell 0
        have n1 := h2.cell 1
        have n2 := h2.cell 2
        have n3 := h2.cell 3
        have y3 := h1.frozen 3
        have z0 := h2.frozen 0
        have z1 := h2.frozen 1
        have z2 := h2.frozen 2
        have z3 := h2.frozen 3
        have lt1 := h1.lt
        have lt2 := h2.lt
        have ne3 : w.heap.size + 1 < w3.heap.size := by have := Row.lt HR2'.out; omega
        have H1b := Lib.hid h1
        have H2b := Lib.hid h2
        clear h1 h2 HR1 HR2' HSW
        simp at p3 n0 n1 n2 n3 q0 q1 q2 q3
        go_region
        go_wp2
        go_roundw
        case rel =>
          refine ⟨rfl, k + 1, by omega, by go_num, Lib.hid ?_⟩
          rw [hpk2.out]
          exact OpIn.keepAll (OpIn.take H1b.out H2b.out HBa.out HSa.out k x.gen x.spoil B.length) (Same.refl _ _).drew
        case measure => simp [intOf]; omega
      · have hyd : decide (y.f < 0) = false := decide_eq_false hyf
        by_cases hyg : y.gen < x.gen
        · have hgd : decide (y.gen < x.gen) = true := decide_eq_true hyg
          have hpk2 : Hid (pickK d m0 m1 (k + 1) = ⟨k, x.gen, x.recs, B.length, x.spoil⟩) := Lib.hid (by rw [HPK.out]; exact if_pos (Or.inr hyg))
          clear hyf hyg
          go_wp2
          have hal : Same (fun _ => True) w3 (w3.alloc (.cells #[.int .u64 x.gen, .slice A4 x.recs.length c4, .int .i64 B.length, .bool x.spoil] 80)) := (Same.refl _ _).alloc _
          have hrow := Row.new w3 80 [.int .u64 x.gen, .slice A4 x.recs.length c4, .int .i64 B.length, .bool x.spoil]
          revert hrow hal
          generalize w3.alloc (.cells #[.int .u64 x.gen, .slice A4 x.recs.length c4, .int .i64 B.length, .bool x.spoil] 80) = wa
          intro hal hrow
          have h1 := Row.keep HR1.out hal trivial
          have h2 := Row.keep HR2'.out hal trivial
          have HSa := Lib.hid (HSW.out.trans hal)
          have HBa := Lib.hid (hby4w.out.keepAll hal)
          have q0 := hrow.cell 0
          have q1 := hrow.cell 1
          have q2 := hrow.cell 2
          have q3 := hrow.cell 3
          have lt3 := hrow.lt
          clear hrow hal p3 n0 lt1 lt2 hby4w
          have p3 := h1.cell 3
          have n0 := h2.cell 0
          have n1 := h2.cell 1
          have n2 := h2.cell 2
          have n3 := h2.cell 3
          have y3 := h1.frozen 3
          have z0 := h2.frozen 0
          have z1 := h2.frozen 1
          have z2 := h2.frozen 2
          have z3 := h2.frozen 3
          have lt1 := h1.lt
          have lt2 := h2.lt
          have ne3 : w.heap.size + 1 < w3.heap.size := by have := Row.lt HR2'.out; omega
          have H1b := Lib.hid h1
          have H2b := Lib.hid h2
          clear h1 h2 HR1 HR2' HSW
          simp at p3 n0 n1 n2 n3 q0 q1 q2 q3
          go_region
          go_wp2
          go_roundw
          case rel =>
            refine ⟨rfl, k + 1, by omega, by go_num, Lib.hid ?_⟩
            rw [hpk2.out]
            exact OpIn.keepAll (OpIn.take H1b.out H2b.out HBa.out HSa.out k x.gen x.spoil B.length) (Same.refl _ _).drew
          case measure => simp [intOf]; omega
        · have hgd : decide (y.gen < x.gen) = false := decide_eq_false hyg
          have hpk2 : Hid (pickK d m0 m1 (k + 1) = y) := Lib.hid (by rw [HPK.out]; exact if_neg (by omega))
          clear hyf hyg
          go_wp2
          go_roundw
          case rel =>
            refine ⟨rfl, k + 1, by omega, by go_num, Lib.hid ?_⟩
            rw [hpk2.out]
            exact OpIn.keepAll ⟨HR1.out, Ay, cy, HR2'.out, HBY.out, HSW.out⟩ ((Same.refl _ _).alloc _)
          case measure => simp [intOf]; omega
    · obtain rfl : k = 2 := by omega
      clear hk hkN
      obtain ⟨y, hy⟩ : ∃ y, y = pickK d m0 m1 2 := ⟨_, rfl⟩
      rw [← hy] at HI HFIT HR2
      clear hy HOFF
      obtain ⟨hr1, Ay, cy, hr2, hby, hsw⟩ := HI.out
      have p0 := hr1.cell 0
      have p1 := hr1.cell 1
      have p2 := hr1.cell 2
      have p3 := hr1.cell 3
      have p4 := hr1.cell 4
      have p5 := hr1.cell 5
      have p6 := hr1.cell 6
      have n0 := hr2.cell 0
      have n1 := hr2.cell 1
      have n2 := hr2.cell 2
      have n3 := hr2.cell 3
      have lt1 := hr1.lt
      have lt2 := hr2.lt
      simp at p0 p1 p2 p3 p4 p5 p6 n0 n1 n2 n3
      have HR1 := Lib.hid hr1
      have HR2' := Lib.hid hr2
      have HBY := Lib.hid hby
      have HSW := Lib.hid hsw
      clear hr1 hr2 hby hsw
      have hylen : 9 * y.recs.length + y.recs.flatten.length ≤ 19000 := HFIT.out.2.1
      have hysz : y.size ≤ 19000 := HFIT.out.2.2
      have HYG := Lib.hid HFIT.out.1
      have HYR : Hid (∀ x ∈ y.recs, x.length ≤ 19000) := Lib.hid fun x hx => by have := mem_flat_le hx; omega
      clear HFIT
      have HSWF := HSW
      by_cases hc : y.f < 0 ∨ y.spoil = true
      · have HR3 : Hid (R = if (rewriteW d (walOf d y) y.recs).1 ≠ 0 then ((rewriteW d (walOf d y) y.recs).1, (rewriteW d (walOf d y) y.recs).2.1, none) else (0, (rewriteW d (walOf d y) y.recs).2.1, some ((rewriteW d (walOf d y) y.recs).2.2, y.recs))) := Lib.hid (by
          rw [HR2.out]; unfold openR; rw [if_pos hc])
        obtain ⟨⟨X, dX, lX⟩, hX⟩ : ∃ Z, Z = rewriteW d (walOf d y) y.recs := ⟨_, rfl⟩
        rw [← hX] at HR3
        have HX := Lib.hid hX.symm
        clear hX HR2
        by_cases hyf : y.f < 0
        · have hyd : decide (y.f < 0) = true := decide_eq_true hyf
          clear hc hyf
          go_wp2
          have y4 := HR1.out.frozen 4
          have y5 := HR1.out.frozen 5
          have y6 := HR1.out.frozen 6
          have HOW := Lib.hid (open_wal H.out HFW.out HR1.out HSW.out)
          go_region
          obtain ⟨hlog0, hkp0⟩ := HOW.out
          have HLOG := Lib.hid (hlog0.keepAll ((Same.refl (fun _ => True) _).drew))
          have HKP := Lib.hid (hkp0.trans ((Same.refl (fun q => q ≠ w.heap.size) _).drew))
          clear hlog0 hkp0 HOW
          revert HLOG HKP
          generalize ((((wo.setCell ⟨w.heap.size, 4, none⟩ (.int .u64 y.gen)).setCell ⟨w.heap.size, 5, none⟩ (.int .i64 y.recs.length)).setCell ⟨w.heap.size, 6, none⟩ (.int .i64 y.size)).drew) = wq
          intro HLOG HKP
          have h2 := Row.keep HR2'.out HKP.out (by omega)
          have hby := HBY.out.keep (HKP.out.mono fun q _ hq => by have hq : w.heap.size + 1 < q := hq; omega)
          have hsw := HSW.out.trans' HKP.out (fun q hq _ => by omega)
          clear HR1 HR2' HBY HSW p0 p1 p2 p3 p4 p5 p6 n0 n1 n2 n3 y4 y5 y6 lt1 lt2
          have hlw := HLOG.out.wal
          have p3 := hlw.cell 3
          have n1 := h2.cell 1
          have n3 := h2.cell 3
          have lt1 := hlw.lt
          have lt2 := h2.lt
          simp [walOf] at p3 n1 n3
          have HH2 := Lib.hid h2
          have HBB := Lib.hid hby
          have HSS := Lib.hid hsw
          clear h2 hby hsw hlw
          go_wp2_with (go_at_call 21; refine stopAt ?_)
          unfold Hid
          have hcl := wrewrite_any w.heap.size g r F _ d (walOf d y) _ y.recs _ HLOG.out hd hds HBB.out (by omega) HYR (by rw [fileW_len]; omega) ⟨by show y.recs.length ≤ _; omega, by show y.size ≤ _; omega, Nat.le_of_lt HYG.out⟩
          rw [HX.out] at hcl
          refine hcl.mono ?_
          rintro e w5 ⟨rfl, ⟨F', hF', hL⟩, hS5⟩
          have hsz5 := hS5.size
          have hszs := HSS.out.size
          have hrow5 := (Row.keep HH2.out hS5 ⟨by omega, by omega, by omega⟩)
          have hby5 := HBB.out.keep (hS5.mono fun q _ hq => by have hq : w.heap.size + 1 < q := hq; exact ⟨by omega, by omega, by omega⟩)
          have HS5 : Hid (Same (fun k => k ≠ g ∧ k ≠ r) w w5) := Lib.hid ((HSS.out.mono (S' := fun k => k ≠ g ∧ k ≠ r) (fun _ _ _ => trivial)).trans' hS5 fun q hq hh => ⟨hh.1, hh.2, by omega⟩)
          have HL5 := Lib.hid hL
          have HF5 := Lib.hid (show ∀ k, F' k → F k ∨ w.heap.size ≤ k from fun k hk => (hF' k hk).imp id (fun h => by omega))
          have HBY5 := Lib.hid hby5
          have e1 := hrow5.cell 1
          have lt2 := hrow5.lt
          simp at e1
          clear hcl hrow5 hby5 hS5 hL hF' HLOG HKP n1 n3 p3
          by_cases hx : X = 0
          · subst hx
            go_wp2
            go_quiet (fail)
            go_wp2
            refine bodyPost_ret (v := .tuple #[ptr w.heap.size, .slice Ay y.recs.length cy, .int .i64 0]) (by simp [results, Try.results15, go_sem]) rfl ?_
            have hsq := fun (q : Nat) => (Same.refl (fun _ => True) w5).drewN q
            refine ⟨ptr w.heap.size, Ay, y.recs.length, cy, by rw [HR3.out]; simp, ⟨F', HF5.out, ?_⟩, HS5.out.drewN _⟩
            rw [HR3.out, if_neg (by simp)]
            exact ⟨rfl, rfl, HBY5.out.keepAll (hsq _), HL5.out.keepAll (hsq _)⟩
          · go_wp2
            refine bodyPost_ret (v := .tuple #[.pointer none, .slice none 0 0, .int .i64 X]) (by simp [results, Try.results15, go_sem]) rfl ?_
            refine ⟨.pointer none, none, 0, 0, by rw [HR3.out, if_pos hx], ⟨F', HF5.out, ?_⟩, HS5.out⟩
            rw [HR3.out, if_pos hx]
            exact ⟨rfl, rfl, HL5.out.disk⟩
        · have hyd : decide (y.f < 0) = false := decide_eq_false hyf
          have hsp : y.spoil = true := hc.resolve_left hyf
          rw [hsp] at n3
          have HSP := Lib.hid hsp
          clear hc hyf hsp
          go_wp2
          have y4 := HR1.out.frozen 4
          have y5 := HR1.out.frozen 5
          have y6 := HR1.out.frozen 6
          have HOW := Lib.hid (open_wal H.out HFW.out HR1.out HSW.out)
          go_region
          obtain ⟨hlog0, hkp0⟩ := HOW.out
          have HLOG := Lib.hid (hlog0.keepAll ((Same.refl (fun _ => True) _).drew))
          have HKP := Lib.hid (hkp0.trans ((Same.refl (fun q => q ≠ w.heap.size) _).drew))
          clear hlog0 hkp0 HOW
          revert HLOG HKP
          generalize ((((wo.setCell ⟨w.heap.size, 4, none⟩ (.int .u64 y.gen)).setCell ⟨w.heap.size, 5, none⟩ (.int .i64 y.recs.length)).setCell ⟨w.heap.size, 6, none⟩ (.int .i64 y.size)).drew) = wq
          intro HLOG HKP
          have h2 := Row.keep HR2'.out HKP.out (by omega)
          have hby := HBY.out.keep (HKP.out.mono fun q _ hq => by have hq : w.heap.size + 1 < q := hq; omega)
          have hsw := HSW.out.trans' HKP.out (fun q hq _ => by omega)
          clear HR1 HR2' HBY HSW p0 p1 p2 p3 p4 p5 p6 n0 n1 n2 n3 y4 y5 y6 lt1 lt2
          have hlw := HLOG.out.wal
          have p3 := hlw.cell 3
          have n1 := h2.cell 1
          have n3 := h2.cell 3
          have lt1 := hlw.lt
          have lt2 := h2.lt
          simp [walOf] at p3 n1 n3
          rw [HSP.out] at n3
          have HH2 := Lib.hid h2
          have HBB := Lib.hid hby
          have HSS := Lib.hid hsw
          clear h2 hby hsw hlw
          go_wp2_with (go_at_call 21; refine stopAt ?_)
          unfold Hid
          have hcl := wrewrite_any w.heap.size g r F _ d (walOf d y) _ y.recs _ HLOG.out hd hds HBB.out (by omega) HYR (by rw [fileW_len]; omega) ⟨by show y.recs.length ≤ _; omega, by show y.size ≤ _; omega, Nat.le_of_lt HYG.out⟩
          rw [HX.out] at hcl
          refine hcl.mono ?_
          rintro e w5 ⟨rfl, ⟨F', hF', hL⟩, hS5⟩
          have hsz5 := hS5.size
          have hszs := HSS.out.size
          have hrow5 := (Row.keep HH2.out hS5 ⟨by omega, by omega, by omega⟩)
          have hby5 := HBB.out.keep (hS5.mono fun q _ hq => by have hq : w.heap.size + 1 < q := hq; exact ⟨by omega, by omega, by omega⟩)
          have HS5 : Hid (Same (fun k => k ≠ g ∧ k ≠ r) w w5) := Lib.hid ((HSS.out.mono (S' := fun k => k ≠ g ∧ k ≠ r) (fun _ _ _ => trivial)).trans' hS5 fun q hq hh => ⟨hh.1, hh.2, by omega⟩)
          have HL5 := Lib.hid hL
          have HF5 := Lib.hid (show ∀ k, F' k → F k ∨ w.heap.size ≤ k from fun k hk => (hF' k hk).imp id (fun h => by omega))
          have HBY5 := Lib.hid hby5
          have e1 := hrow5.cell 1
          have lt2 := hrow5.lt
          simp at e1
          clear hcl hrow5 hby5 hS5 hL hF' HLOG HKP n1 n3 p3
          by_cases hx : X = 0
          · subst hx
            go_wp2
            go_quiet (fail)
            go_wp2
            refine bodyPost_ret (v := .tuple #[ptr w.heap.size, .slice Ay y.recs.length cy, .int .i64 0]) (by simp [results, Try.results15, go_sem]) rfl ?_
            have hsq := fun (q : Nat) => (Same.refl (fun _ => True) w5).drewN q
            refine ⟨ptr w.heap.size, Ay, y.recs.length, cy, by rw [HR3.out]; simp, ⟨F', HF5.out, ?_⟩, HS5.out.drewN _⟩
            rw [HR3.out, if_neg (by simp)]
            exact ⟨rfl, rfl, HBY5.out.keepAll (hsq _), HL5.out.keepAll (hsq _)⟩
          · go_wp2
            refine bodyPost_ret (v := .tuple #[.pointer none, .slice none 0 0, .int .i64 X]) (by simp [results, Try.results15, go_sem]) rfl ?_
            refine ⟨.pointer none, none, 0, 0, by rw [HR3.out, if_pos hx], ⟨F', HF5.out, ?_⟩, HS5.out⟩
            rw [HR3.out, if_pos hx]
            exact ⟨rfl, rfl, HL5.out.disk⟩
      · have HR3 : Hid (R = (0, d, some (walOf d y, y.recs))) := Lib.hid (by rw [HR2.out]; unfold openR; rw [if_neg hc])
        have hyd : decide (y.f < 0) = false := decide_eq_false fun h => hc (Or.inl h)
        have hsp : y.spoil = false := by
          cases h : y.spoil with
          | false => rfl
          | true => exact absurd (Or.inr h) hc
        rw [hsp] at n3
        have HSP := Lib.hid hsp
        clear hc hsp HR2
        go_wp2
        have y4 := HR1.out.frozen 4
        have y5 := HR1.out.frozen 5
        have y6 := HR1.out.frozen 6
        have HOW := Lib.hid (open_wal H.out HFW.out HR1.out HSW.out)
        go_region
        obtain ⟨hlog0, hkp0⟩ := HOW.out
        have HLOG := Lib.hid (hlog0.keepAll ((Same.refl (fun _ => True) _).drew))
        have HKP := Lib.hid (hkp0.trans ((Same.refl (fun q => q ≠ w.heap.size) _).drew))
        clear hlog0 hkp0 HOW
        revert HLOG HKP
        generalize ((((wo.setCell ⟨w.heap.size, 4, none⟩ (.int .u64 y.gen)).setCell ⟨w.heap.size, 5, none⟩ (.int .i64 y.recs.length)).setCell ⟨w.heap.size, 6, none⟩ (.int .i64 y.size)).drew) = wq
        intro HLOG HKP
        have h2 := Row.keep HR2'.out HKP.out (by omega)
        have hby := HBY.out.keep (HKP.out.mono fun q _ hq => by have hq : w.heap.size + 1 < q := hq; omega)
        have hsw := HSW.out.trans' HKP.out (fun q hq _ => by omega)
        clear HR1 HR2' HBY HSW p0 p1 p2 p3 p4 p5 p6 n0 n1 n2 n3 y4 y5 y6 lt1 lt2
        have hlw := HLOG.out.wal
        have p3 := hlw.cell 3
        have n1 := h2.cell 1
        have n3 := h2.cell 3
        have lt1 := hlw.lt
        have lt2 := h2.lt
        simp [walOf] at p3 n1 n3
        rw [HSP.out] at n3
        have HH2 := Lib.hid h2
        have HBB := Lib.hid hby
        have HSS := Lib.hid hsw
        clear h2 hby hsw hlw
        go_wp2
        go_quiet (fail)
        go_wp2
        refine bodyPost_ret (v := .tuple #[ptr w.heap.size, .slice Ay y.recs.length cy, .int .i64 0]) (by simp [results, Try.results15, go_sem]) rfl ?_
        have hsq := fun (W : World) (q : Nat) => (Same.refl (fun _ => True) W).drewN q
        refine ⟨ptr w.heap.size, Ay, y.recs.length, cy, by rw [HR3.out], ⟨F, fun _ h => Or.inl h, ?_⟩, ?_⟩
        · rw [HR3.out]
          exact ⟨rfl, rfl, HBB.out.keepAll (hsq _ _), HLOG.out.keepAll (hsq _ _)⟩
        · exact (HSS.out.mono (S' := fun k => k ≠ g ∧ k ≠ r) (fun _ _ _ => trivial)).drewN _
end Go.Proofs.Ytpjinngngbifoaa
