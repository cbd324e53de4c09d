/-
  Words, plain models, laws and walks that the claims of this layer share (joined by shake.py). No condition.
-/
import Derived.BigQuiet
import Derived.BigRegion
import Derived.StillTailTactics
import Derived.Test.YtpjinngngbifoaaU1
import Derived.Test.YtpjinngngbifoaaU2
import Derived.Test.YtpjinngngbifoaaU3
import Derived.Test.YtpjinngngbifoaaU4
import Derived.Test.YtpjinngngbifoaaU5
import Derived.Test.YtpjinngngbifoaaU6
import Derived.Test.YtpjinngngbifoaaU7
import Derived.Test.YtpjinngngbifoaaU8
import Derived.Test.YtpjinngngbifoaaU9
import Derived.Test.YtpjinngngbifoaaU10
import Derived.Test.YtpjinngngbifoaaU11
import Derived.Test.YtpjinngngbifoaaU12
import Derived.Test.YtpjinngngbifoaaU13
import Derived.Test.YtpjinngngbifoaaU14
import Derived.Test.YtpjinngngbifoaaU15
import Derived.Test.YtpjinngngbifoaaU16
import Derived.Test.YtpjinngngbifoaaU17
import Derived.Test.YtpjinngngbifoaaU18
import Derived.Test.YtpjinngngbifoaaU19
import Derived.Test.YtpjinngngbifoaaU20
set_option linter.unusedSimpArgs false
set_option linter.unusedVariables false
namespace Go.Proofs.Ytpjinngngbifoaa
open Go.RowKit
def EightPost (x : Nat) (w : World) (e : Ending) (w' : World) : Prop := ∃ u, e = .returned u ∧ OwnB w' w.heap.size u (putN 8 x) ∧ Same (fun _ => True) w w'
theorem refeight_any (x : Nat) (w : World) (hx : x < 2 ^ (8 * 8)) : Calls Try.prog 37 #[.int .u64 x] w (EightPost x w) := by
  have hput := refput_any (.slice none 0 0) [] x 8 (fun _ => True) w ⟨none, 0, rfl, by simp, by simp [maxLen], Sl.nil _ _ _ _⟩ (by simp) (by omega) hx
  rw [List.nil_append] at hput
  clear hx
  go_enter Try.func37, Try.ntmps37
  go_wp2_with (go_at_call 63; refine hput.mono ?_; rintro e w1 ⟨u, rfl, hu, hs⟩; obtain ⟨A, c, rfl, -, -⟩ := hu.formN (putN_len 8 x))
  go_ret
  exact ⟨_, rfl, hu, hs⟩
theorem take_map_snoc (rs : List (List UInt8)) {k : Nat} (h : k < rs.length) (g : Nat) : recsF (genF g :: (rs.take (k + 1)).map (82 :: ·)) = recsF (genF g :: (rs.take k).map (82 :: ·)) ++ recF (82 :: rs[k]) := by
  rw [List.take_succ_eq_append_getElem h, List.map_append, ← List.cons_append, recsF_app]; simp [recsF]
theorem fileW_split (g : Nat) (rs : List (List UInt8)) : fileW g rs = recsF (genF g :: rs.map (82 :: ·)) ++ recF [69] := by
  unfold fileW logL; rw [← List.cons_append, recsF_app]; simp [recsF]
theorem part_le (g : Nat) (rs : List (List UInt8)) (k : Nat) : (recsF (genF g :: (rs.take k).map (82 :: ·))).length ≤ (fileW g rs).length := by
  rw [recsF_cons, List.length_append, appR_len, recF_len, genF_len, fileW_len]
  have h1 := flat_take_le rs k
  have h2 : (rs.take k).length ≤ rs.length := by rw [List.length_take]; omega
  omega
end Go.Proofs.Ytpjinngngbifoaa
namespace Go.Proofs.Ytpjinngngbifoaa
open Go.RowKit Go.ChangeMaps Go.MapKept
def refCells (d : DiskM) : List Value :=
  [.string (str d.f0.b), .string (str d.f1.b), .int .i64 d.f0.last, .int .i64 d.f1.last, .bool d.off, .int .i64 d.armed, .int .i64 d.lives, .int .i64 d.steps]
def RefAt (w : World) (h : Nat) (d : DiskM) : Prop := Row w h 89 (refCells d)
theorem RefAt.keep {w w' : World} {h : Nat} {d : DiskM} {S : Nat → Prop} (H : RefAt w h d) (hs : Same S w w') (hS : S h) : RefAt w' h d := Row.keep H hs hS
theorem RefAt.cells {w : World} {h : Nat} {d : DiskM} (H : RefAt w h d) :
    (w.cell? ⟨h, 0, none⟩ = some (.string (str d.f0.b)) ∧ w.cell? ⟨h, 1, none⟩ = some (.string (str d.f1.b)) ∧ w.cell? ⟨h, 2, none⟩ = some (.int .i64 d.f0.last) ∧ w.cell? ⟨h, 3, none⟩ = some (.int .i64 d.f1.last)) ∧
    (w.cell? ⟨h, 4, none⟩ = some (.bool d.off) ∧ w.cell? ⟨h, 5, none⟩ = some (.int .i64 d.armed) ∧ w.cell? ⟨h, 6, none⟩ = some (.int .i64 d.lives) ∧ w.cell? ⟨h, 7, none⟩ = some (.int .i64 d.steps)) :=
  ⟨⟨Row.cell H 0, Row.cell H 1, Row.cell H 2, Row.cell H 3⟩, Row.cell H 4, Row.cell H 5, Row.cell H 6, Row.cell H 7⟩
theorem RefAt.free {w : World} {h : Nat} {d : DiskM} (H : RefAt w h d) :
    (w.frozen? ⟨h, 0, none⟩ = false ∧ w.frozen? ⟨h, 1, none⟩ = false ∧ w.frozen? ⟨h, 2, none⟩ = false ∧ w.frozen? ⟨h, 3, none⟩ = false) ∧ w.frozen? ⟨h, 4, none⟩ = false ∧ w.frozen? ⟨h, 5, none⟩ = false ∧ w.frozen? ⟨h, 6, none⟩ = false ∧ w.frozen? ⟨h, 7, none⟩ = false :=
  ⟨⟨Row.frozen H 0, Row.frozen H 1, Row.frozen H 2, Row.frozen H 3⟩, Row.frozen H 4, Row.frozen H 5, Row.frozen H 6, Row.frozen H 7⟩
@[go_sem] theorem refdisk_nil (w : World) (p : Option Addr) : (binOp .eql 58 (.pointer p) (.pointer none)).run Try.prog w = .ok (.bool p.isNone) w :=
  run_eql_pointer_nil w _ p (by kernel_rfl)
theorem rmay_any (h : Nat) (d : DiskM) (f : Int) (w : World) (H : RefAt w h d) :
    Calls Try.prog 70 #[ptr h, .int .i64 f] w fun e w' => e = .returned (.int .i64 (d.may f)) ∧ w = w' := by
  obtain ⟨-, c4, -⟩ := H.cells
  unfold DiskM.may
  cases hoff : d.off <;> rw [hoff] at c4 <;> clear hoff H
  · by_cases hf : f = 0 ∨ f = 1
    · simp only [hf, if_true, Bool.false_eq_true, if_false]
      obtain rfl | rfl := hf
      · go_enter Try.func70, Try.ntmps70
        go_wp2
        go_ret
        exact ⟨rfl, rfl⟩
      · go_enter Try.func70, Try.ntmps70
        go_wp2
        go_ret
        exact ⟨rfl, rfl⟩
    · have h0 : (f != 0) = true := by simpa using fun e => hf (.inl e)
      have h1 : (f != 1) = true := by simpa using fun e => hf (.inr e)
      simp only [hf, Bool.false_eq_true, if_false]
      clear hf
      go_enter Try.func70, Try.ntmps70
      go_wp2
      go_ret
      exact ⟨rfl, rfl⟩
  · go_enter Try.func70, Try.ntmps70
    go_wp2
    go_ret
    exact ⟨rfl, rfl⟩
/-- The step that the document's disk counts. -/
def DiskM.count (d : DiskM) : DiskM := if d.armed = 0 then { d with off := true } else { d with armed := if 0 < d.armed then d.armed - 1 else d.armed, steps := d.steps + 1 }
def RStep (h : Nat) (w : World) (v : Value) (d' : DiskM) (e : Ending) (w' : World) : Prop := e = .returned v ∧ RefAt w' h d' ∧ Same (fun k => k ≠ h) w w'
theorem rstep_any (h : Nat) (d : DiskM) (w : World) (H : RefAt w h d) (ha : -1 ≤ d.armed ∧ d.armed ≤ 9223372036854775807) (hs : d.steps < 1000000) :
    Calls Try.prog 71 #[ptr h] w (RStep h w (.bool (d.armed != 0)) d.count) := by
  obtain ⟨⟨-, -, -, -⟩, c4, c5, -, c7⟩ := H.cells
  obtain ⟨⟨-, -, -, -⟩, z4, z5, -, z7⟩ := H.free
  have HH := Lib.hid H
  clear H
  by_cases h0 : d.armed = 0
  · rw [h0] at c5
    have e := HH.out
    have hc : d.count = { d with off := true } := by simp [DiskM.count, h0]
    have hb : (d.armed != 0) = false := by simp [h0]
    rw [hc, hb]
    clear hc hb h0
    go_enter Try.func71, Try.ntmps71
    go_wp2
    go_ret
    exact ⟨rfl, by simpa [RefAt, refCells] using Row.set_ HH.out 4 (.bool true), (Same.refl _ _).setCell (fun _ h => h rfl) _⟩
  · have hb : (d.armed != 0) = true := by simpa using h0
    have hb' : (d.armed == 0) = false := by simpa using h0
    rw [hb]
    by_cases h1 : 0 < d.armed
    · have hc : d.count = { d with armed := d.armed - 1, steps := d.steps + 1 } := by simp [DiskM.count, h0, h1]
      rw [hc]
      clear hc hb h0
      go_enter Try.func71, Try.ntmps71
      go_wp2
      go_ret
      exact ⟨rfl, by simpa [RefAt, refCells] using (Row.set_ HH.out 5 (.int .i64 (d.armed - 1))).set_ 7 (.int .i64 ((d.steps : Int) + 1)), ((Same.refl _ _).setCell (fun _ h => h rfl) _).setCell (fun _ h => h rfl) _⟩
    · have hc : d.count = { d with steps := d.steps + 1 } := by simp [DiskM.count, h0, h1]
      rw [hc]
      clear hc hb h0
      go_enter Try.func71, Try.ntmps71
      go_wp2
      go_ret
      exact ⟨rfl, by simpa [RefAt, refCells] using Row.set_ HH.out 7 (.int .i64 ((d.steps : Int) + 1)), (Same.refl _ _).setCell (fun _ h => h rfl) _⟩
/-- What the count of a step and the change of a file come to. -/
theorem step_no {d : DiskM} (f : Int) (x : FileM) (h : d.armed = 0) : d.step f x = (6, d.count) := by simp [DiskM.step, DiskM.count, h]
theorem step_yes {d : DiskM} (f : Int) (x : FileM) (h : d.armed ≠ 0) : d.step f x = (0, d.count.put f x) := by
  simp only [DiskM.step, DiskM.count, h, if_false]
  unfold DiskM.put
  split <;> rfl
theorem count_file (d : DiskM) (f : Int) : d.count.file f = d.file f := by
  unfold DiskM.count DiskM.file; split <;> split <;> rfl
theorem RefAt.store {w : World} {h : Nat} {d d' : DiskM} (H : RefAt w h d) (i : Nat) (u : Value) (e : (refCells d).set i u = refCells d') : RefAt (w.setCell ⟨h, i, none⟩ u) h d' := by
  unfold RefAt
  rw [← e]
  exact Row.set_ H i u
theorem RefAt.drew {w : World} {h : Nat} {d : DiskM} (H : RefAt w h d) : RefAt w.drew h d := H
set_option maxRecDepth 100000 in
theorem rsync_any (h : Nat) (d : DiskM) (f : Int) (w : World) (H : RefAt w h d) (hd : d.Fit) :
    Calls Try.prog 74 #[ptr h, .int .i64 f] w (RStep h w (.int .i64 (d.sync f).1) (d.sync f).2) := by
  have hm := rmay_any h d f w H
  have hst := rstep_any h d w H hd.1 hd.2
  have HH := Lib.hid H
  unfold DiskM.sync
  by_cases h0 : d.may f = 0
  · have hf := DiskM.may_zero h0
    rw [h0] at hm
    rw [if_neg (by simp [h0])]
    clear h0 H
    by_cases ha : d.armed = 0
    · rw [step_no f _ ha]
      rw [show (d.armed != 0) = false by simp [ha]] at hst
      clear ha
      obtain rfl | rfl := hf
      all_goals
        go_enter Try.func74, Try.ntmps74
        go_wp2_with (first | (go_at_call 70; refine hm.mono ?_; rintro e w' ⟨rfl, rfl⟩) | (go_at_call 71; refine hst.mono ?_; rintro e w1 ⟨rfl, hr1, hs1⟩))
        go_ret
        exact ⟨rfl, hr1, hs1⟩
    · rw [step_yes f _ ha]
      rw [show (d.armed != 0) = true by simpa using ha] at hst
      have hcf := count_file d f
      clear ha
      try rw [← hcf] at hlen
      try rw [← hcf]
      clear hcf
      generalize d.count = d' at *
      obtain rfl | rfl := hf
      · go_enter Try.func74, Try.ntmps74
        go_wp2_with (first | (go_at_call 70; refine hm.mono ?_; rintro e w' ⟨rfl, rfl⟩) | (go_at_call 71; refine hst.mono ?_; rintro e w1 ⟨rfl, hr1, hs1⟩))
        obtain ⟨⟨c0, c1, c2, c3⟩, -⟩ := hr1.cells
        obtain ⟨⟨z0, z1, z2, z3⟩, -⟩ := hr1.free
        go_still_tail 12, (by kernel_rfl)
        go_wp2
        go_ret
        exact ⟨rfl, hr1.drew.store 2 _ rfl, hs1.drew.setCell (fun _ h => h rfl) _⟩
      · go_enter Try.func74, Try.ntmps74
        go_wp2_with (first | (go_at_call 70; refine hm.mono ?_; rintro e w' ⟨rfl, rfl⟩) | (go_at_call 71; refine hst.mono ?_; rintro e w1 ⟨rfl, hr1, hs1⟩))
        obtain ⟨⟨c0, c1, c2, c3⟩, -⟩ := hr1.cells
        obtain ⟨⟨z0, z1, z2, z3⟩, -⟩ := hr1.free
        go_still_tail 12, (by kernel_rfl)
        go_wp2
        go_ret
        exact ⟨rfl, hr1.drew.store 3 _ rfl, hs1.drew.setCell (fun _ h => h rfl) _⟩
  · have hb : (d.may f != 0) = true := by simpa using h0
    rw [if_pos h0]
    clear h0 H
    go_enter Try.func74, Try.ntmps74
    go_wp2_with (first | (go_at_call 70; refine hm.mono ?_; rintro e w' ⟨rfl, rfl⟩))
    go_ret
    exact ⟨rfl, HH.out, Same.refl _ _⟩
attribute [local go_sem] str_size
@[local go_sem] theorem str_app (a b : List UInt8) : str a ++ str b = str (a ++ b) := by
  apply ByteArray.ext
  simp [str]
set_option maxRecDepth 100000 in
theorem rappend_any (h : Nat) (d : DiskM) (f : Int) (bs : List UInt8) (w : World) (H : RefAt w h d) (hd : d.Fit) (hlen : (d.file f).b.length + bs.length ≤ 4194304) :
    Calls Try.prog 50 #[ptr h, .int .i64 f, .string (str bs)] w (RStep h w (.int .i64 (d.append f bs).1) (d.append f bs).2) := by
  have hm := rmay_any h d f w H
  have hst := rstep_any h d w H hd.1 hd.2
  have HH := Lib.hid H
  unfold DiskM.append
  by_cases h0 : d.may f = 0
  · have hf := DiskM.may_zero h0
    rw [h0] at hm
    rw [if_neg (by simp [h0])]
    obtain ⟨⟨d0, d1, -, -⟩, -⟩ := H.cells
    clear h0 H
    have hz : ∀ l : List UInt8, l.length + bs.length ≤ 4194304 → (bs.length : Int) ≤ 4194304 - (l.length : Int) := fun l h => by omega
    by_cases ha : d.armed = 0
    · rw [step_no f _ ha]
      rw [show (d.armed != 0) = false by simp [ha]] at hst
      clear ha
      obtain rfl | rfl := hf
      all_goals
        simp only [DiskM.file, if_true, Int.reduceEq, if_false] at hlen
        have hleI : (bs.length : Int) ≤ 4194304 - _ := hz _ hlen
        go_enter Try.func50, Try.ntmps50
        go_wp2_with (first | (go_at_call 70; refine hm.mono ?_; rintro e w' ⟨rfl, rfl⟩) | (go_at_call 71; refine hst.mono ?_; rintro e w1 ⟨rfl, hr1, hs1⟩))
        go_ret
        exact ⟨rfl, hr1, hs1⟩
    · rw [step_yes f _ ha]
      rw [show (d.armed != 0) = true by simpa using ha] at hst
      have hcf := count_file d f
      clear ha
      rw [← hcf]
      have hlen := hz _ hlen
      clear hz hcf
      obtain rfl | rfl := hf
      · simp only [DiskM.file, if_true, Int.reduceEq, if_false] at hlen
        go_enter Try.func50, Try.ntmps50
        go_wp2_with (first | (go_at_call 70; refine hm.mono ?_; rintro e w' ⟨rfl, rfl⟩) | (go_at_call 71; refine hst.mono ?_; rintro e w1 ⟨rfl, hr1, hs1⟩))
        obtain ⟨⟨c0, c1, c2, c3⟩, -⟩ := hr1.cells
        obtain ⟨⟨z0, z1, z2, z3⟩, -⟩ := hr1.free
        have hadd : ∀ w : World, (Op.stringOp .add (str d.count.f0.b) (str bs)).run Try.prog w = .ok (.string (str (d.count.f0.b ++ bs))) w := fun w => by
          rw [← str_app]
          exact run_string_add_sum _ _ _ (by rw [str_size, str_size, show d.count.f0 = d.f0 by unfold DiskM.count; split <;> rfl]; omega)
        go_still_tail 13, (by kernel_rfl)
        go_wp2
        go_ret
        exact ⟨rfl, hr1.drew.store 0 _ rfl, hs1.drew.setCell (fun _ h => h rfl) _⟩
      · simp only [DiskM.file, if_true, Int.reduceEq, if_false] at hlen
        go_enter Try.func50, Try.ntmps50
        go_wp2_with (first | (go_at_call 70; refine hm.mono ?_; rintro e w' ⟨rfl, rfl⟩) | (go_at_call 71; refine hst.mono ?_; rintro e w1 ⟨rfl, hr1, hs1⟩))
        obtain ⟨⟨c0, c1, c2, c3⟩, -⟩ := hr1.cells
        obtain ⟨⟨z0, z1, z2, z3⟩, -⟩ := hr1.free
        have hadd : ∀ w : World, (Op.stringOp .add (str d.count.f1.b) (str bs)).run Try.prog w = .ok (.string (str (d.count.f1.b ++ bs))) w := fun w => by
          rw [← str_app]
          exact run_string_add_sum _ _ _ (by rw [str_size, str_size, show d.count.f1 = d.f1 by unfold DiskM.count; split <;> rfl]; omega)
        go_still_tail 13, (by kernel_rfl)
        go_wp2
        go_ret
        exact ⟨rfl, hr1.drew.store 1 _ rfl, hs1.drew.setCell (fun _ h => h rfl) _⟩
  · have hb : (d.may f != 0) = true := by simpa using h0
    rw [if_pos h0]
    clear h0 H
    go_enter Try.func50, Try.ntmps50
    go_wp2_with (first | (go_at_call 70; refine hm.mono ?_; rintro e w' ⟨rfl, rfl⟩))
    go_ret
    exact ⟨rfl, HH.out, Same.refl _ _⟩
set_option maxRecDepth 100000 in
theorem rclear_any (h : Nat) (d : DiskM) (f : Int) (w : World) (H : RefAt w h d) (hd : d.Fit) :
    Calls Try.prog 75 #[ptr h, .int .i64 f] w (RStep h w (.int .i64 (d.clear f).1) (d.clear f).2) := by
  have hm := rmay_any h d f w H
  have hst := rstep_any h d w H hd.1 hd.2
  have HH := Lib.hid H
  unfold DiskM.clear
  by_cases h0 : d.may f = 0
  · have hf := DiskM.may_zero h0
    rw [h0] at hm
    rw [if_neg (by simp [h0])]
    clear h0 H
    by_cases ha : d.armed = 0
    · rw [step_no f _ ha]
      rw [show (d.armed != 0) = false by simp [ha]] at hst
      clear ha
      obtain rfl | rfl := hf
      all_goals
        go_enter Try.func75, Try.ntmps75
        go_wp2_with (first | (go_at_call 70; refine hm.mono ?_; rintro e w' ⟨rfl, rfl⟩) | (go_at_call 71; refine hst.mono ?_; rintro e w1 ⟨rfl, hr1, hs1⟩))
        go_ret
        exact ⟨rfl, hr1, hs1⟩
    · rw [step_yes f _ ha]
      rw [show (d.armed != 0) = true by simpa using ha] at hst
      have hcf := count_file d f
      clear ha
      try rw [← hcf] at hlen
      try rw [← hcf]
      clear hcf
      generalize d.count = d' at *
      obtain rfl | rfl := hf
      · go_enter Try.func75, Try.ntmps75
        go_wp2_with (first | (go_at_call 70; refine hm.mono ?_; rintro e w' ⟨rfl, rfl⟩) | (go_at_call 71; refine hst.mono ?_; rintro e w1 ⟨rfl, hr1, hs1⟩))
        obtain ⟨⟨c0, c1, c2, c3⟩, -⟩ := hr1.cells
        obtain ⟨⟨z0, z1, z2, z3⟩, -⟩ := hr1.free
        go_region
        all_goals
          go_wp2
          go_ret
        · exact ⟨rfl, (hr1.drew.store (d' := d'.put 0 ⟨[], d'.f0.last⟩) 0 _ rfl).store 2 _ rfl, (hs1.drew.setCell (fun _ h => h rfl) _).setCell (fun _ h => h rfl) _⟩
      · go_enter Try.func75, Try.ntmps75
        go_wp2_with (first | (go_at_call 70; refine hm.mono ?_; rintro e w' ⟨rfl, rfl⟩) | (go_at_call 71; refine hst.mono ?_; rintro e w1 ⟨rfl, hr1, hs1⟩))
        obtain ⟨⟨c0, c1, c2, c3⟩, -⟩ := hr1.cells
        obtain ⟨⟨z0, z1, z2, z3⟩, -⟩ := hr1.free
        go_region
        all_goals
          go_wp2
          go_ret
        · exact ⟨rfl, (hr1.drew.store (d' := d'.put 1 ⟨[], d'.f1.last⟩) 1 _ rfl).store 3 _ rfl, (hs1.drew.setCell (fun _ h => h rfl) _).setCell (fun _ h => h rfl) _⟩
  · have hb : (d.may f != 0) = true := by simpa using h0
    rw [if_pos h0]
    clear h0 H
    go_enter Try.func75, Try.ntmps75
    go_wp2_with (first | (go_at_call 70; refine hm.mono ?_; rintro e w' ⟨rfl, rfl⟩))
    go_ret
    exact ⟨rfl, HH.out, Same.refl _ _⟩
def StrPost (bs : List UInt8) (x : Int) (w : World) (e : Ending) (w' : World) : Prop := e = .returned (.tuple #[.string (str bs), .int .i64 x]) ∧ w = w'
theorem rread_any (h : Nat) (d : DiskM) (f : Int) (w : World) (H : RefAt w h d) :
    Calls Try.prog 59 #[ptr h, .int .i64 f] w (StrPost (d.read f).1 (d.read f).2 w) := by
  have hm := rmay_any h d f w H
  obtain ⟨⟨c0, c1, -, -⟩, -⟩ := H.cells
  unfold DiskM.read
  by_cases h0 : d.may f = 0
  · have hf := DiskM.may_zero h0
    rw [h0] at hm
    rw [if_neg (by simp [h0])]
    clear h0 H
    obtain rfl | rfl := hf
    all_goals
      go_enter Try.func59, Try.ntmps59
      go_wp2_with (go_at_call 70; refine hm.mono ?_; rintro e w' ⟨rfl, rfl⟩)
      go_ret2
      exact ⟨rfl, rfl⟩
  · have hb : (d.may f != 0) = true := by simpa using h0
    rw [if_pos h0]
    clear h0 H
    go_enter Try.func59, Try.ntmps59
    go_wp2_with (go_at_call 70; refine hm.mono ?_; rintro e w' ⟨rfl, rfl⟩)
    go_ret2
    exact ⟨rfl, rfl⟩
def RNew (w : World) (d : DiskM) (e : Ending) (w' : World) : Prop := ∃ h, e = .returned (ptr h) ∧ w.heap.size ≤ h ∧ RefAt w' h d ∧ Same (fun _ => True) w w'
theorem rnew_any (w : World) : Calls Try.prog 28 #[] w (RNew w DiskM.new) := by
  go_enter Try.func28, Try.ntmps28
  go_wp2
  go_ret
  exact ⟨_, rfl, Nat.le_refl _, Row.new _ _ _, (Same.refl _ _).alloc _⟩
end Go.Proofs.Ytpjinngngbifoaa
