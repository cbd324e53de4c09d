/-
  WalNone: what a nil log, a zero one, and one without a disk answer.
-/
import Derived.Test.YtpjinngngbifoaaWalB
set_option linter.unusedSimpArgs false
set_option linter.unusedVariables false
namespace Go.Proofs.Ytpjinngngbifoaa
open Go.RowKit

theorem wnone_nil (w : World) : Calls Try.prog 41 #[.pointer none] w fun e w' => e = .returned (.bool true) ∧ w = w' := by
  go_enter Try.func41, Try.ntmps41
  go_wp2
  go_ret
  exact ⟨rfl, rfl⟩
theorem wnone_zero (p : Nat) (n : Int) (w : World) (h : w.cell? ⟨p, 0, none⟩ = some (.pointer none)) : Calls Try.prog 41 #[ptr p] w fun e w' => e = .returned (.bool true) ∧ w = w' := by
  have hlt := World.block_lt_of_cell? w _ h
  go_enter Try.func41, Try.ntmps41
  go_wp2
  go_ret
  exact ⟨rfl, rfl⟩
def NoneAt (v : Value) (w : World) : Prop := Calls Try.prog 41 #[v] w fun e w' => e = .returned (.bool true) ∧ w = w'
theorem wappend_none (v : Value) (w : World) (h : NoneAt v w) : Calls Try.prog 18 #[v, .slice none 0 0] w fun e w' => e = .returned (.int .i64 1) ∧ w = w' := by
  unfold NoneAt at h
  go_enter Try.func18, Try.ntmps18
  go_wp2_with (go_at_call 41; refine h.mono ?_; rintro e w1 ⟨rfl, rfl⟩)
  go_ret
  exact ⟨rfl, rfl⟩
theorem wrewrite_none (v : Value) (w : World) (h : NoneAt v w) : Calls Try.prog 21 #[v, .slice none 0 0] w fun e w' => e = .returned (.int .i64 1) ∧ w = w' := by
  unfold NoneAt at h
  go_enter Try.func21, Try.ntmps21
  go_wp2_with (go_at_call 41; refine h.mono ?_; rintro e w1 ⟨rfl, rfl⟩)
  go_ret
  exact ⟨rfl, rfl⟩
theorem wsync_none (v : Value) (w : World) (h : NoneAt v w) : Calls Try.prog 19 #[v] w fun e w' => e = .returned (.int .i64 1) ∧ w = w' := by
  unfold NoneAt at h
  go_enter Try.func19, Try.ntmps19
  go_wp2_with (go_at_call 41; refine h.mono ?_; rintro e w1 ⟨rfl, rfl⟩)
  go_ret
  exact ⟨rfl, rfl⟩
theorem wcount_none (v : Value) (w : World) (h : NoneAt v w) : Calls Try.prog 22 #[v] w fun e w' => e = .returned (.int .i64 0) ∧ w = w' := by
  unfold NoneAt at h
  go_enter Try.func22, Try.ntmps22
  go_wp2_with (go_at_call 41; refine h.mono ?_; rintro e w1 ⟨rfl, rfl⟩)
  go_ret
  exact ⟨rfl, rfl⟩
theorem wbytes_none (v : Value) (w : World) (h : NoneAt v w) : Calls Try.prog 27 #[v] w fun e w' => e = .returned (.int .i64 0) ∧ w = w' := by
  unfold NoneAt at h
  go_enter Try.func27, Try.ntmps27
  go_wp2_with (go_at_call 41; refine h.mono ?_; rintro e w1 ⟨rfl, rfl⟩)
  go_ret
  exact ⟨rfl, rfl⟩
theorem dnone_nil (w : World) : Calls Try.prog 45 #[.pointer none] w fun e w' => e = .returned (.bool true) ∧ w = w' := by
  go_enter Try.func45, Try.ntmps45
  go_wp2
  go_ret
  exact ⟨rfl, rfl⟩
theorem dlives_nil (w : World) : Calls Try.prog 38 #[.pointer none] w fun e w' => e = .returned (.int .i64 0) ∧ w = w' := by
  go_enter Try.func38, Try.ntmps38
  go_wp2_with (go_at_call 45; refine (dnone_nil _).mono ?_; rintro e w1 ⟨rfl, rfl⟩)
  go_ret
  exact ⟨rfl, rfl⟩
theorem dmay_nil (f : Int) (w : World) : Calls Try.prog 34 #[.pointer none, .int .i64 f] w fun e w' => e = .returned (.int .i64 1) ∧ w = w' := by
  go_enter Try.func34, Try.ntmps34
  go_wp2_with (go_at_call 45; refine (dnone_nil _).mono ?_; rintro e w1 ⟨rfl, rfl⟩)
  go_ret
  exact ⟨rfl, rfl⟩
theorem dread_nil (f : Int) (w : World) : Calls Try.prog 39 #[.pointer none, .int .i64 f] w fun e w' => e = .returned (.tuple #[.slice none 0 0, .int .i64 1]) ∧ w = w' := by
  go_enter Try.func39, Try.ntmps39
  go_wp2_with (go_at_call 34; refine (dmay_nil _ _).mono ?_; rintro e w1 ⟨rfl, rfl⟩)
  go_ret2
  exact ⟨rfl, rfl⟩
def OpenNil (w : World) (e : Ending) (w' : World) : Prop := e = .returned (.tuple #[.pointer none, .slice none 0 0, .int .i64 1]) ∧ Same (fun _ => True) w w'
set_option maxRecDepth 100000 in
theorem wopen_nil (w : World) : Calls Try.prog 15 #[.pointer none] w (OpenNil w) := by
  go_enter Try.func15, Try.ntmps15
  go_wp2_with (go_at_call 38; refine (dlives_nil _).mono ?_; rintro e w1 ⟨rfl, rfl⟩)
  have hs0 : Hid (Same (fun _ => True) w ((w.alloc (.cells #[.pointer none, .int .i64 0, .bool false, .int .i64 (-1), .int .u64 0, .int .i64 0, .int .i64 0] 66)).alloc (.cells #[.int .u64 0, .slice none 0 0, .int .i64 0, .bool false] 80))) := Lib.hid (((Same.refl _ _).alloc _).alloc _)
  go_loopw [2, 17] (fun pv i wr => pv = ptr w.heap.size ∧ i = .int .i64 0 ∧ Hid (Same (fun _ => True) w wr)) (fun _ i _ => 0)
  case atStart => exact ⟨rfl, rfl, hs0⟩
  case round =>
    obtain ⟨rfl, rfl, HS⟩ := hrel
    go_wp2_with (go_at_call 39; refine (dread_nil _ _).mono ?_; rintro e w2 ⟨rfl, rfl⟩)
    refine bodyPost_ret (v := .tuple #[.pointer none, .slice none 0 0, .int .i64 1]) (by simp [results, Try.results15, go_sem]) rfl ⟨rfl, HS.out⟩
set_option maxRecDepth 100000 in
set_option maxHeartbeats 2000000 in
theorem walnone_walk (w : World) : Calls Try.prog 8 #[] w (TrueP w) := by
  have eqn : ∀ (W : World), (binOp .eql 34 (.pointer none) (.pointer none)).run Try.prog W = .ok (.bool true) W := fun W => by kernel_rfl
  go_enter Try.func8, Try.ntmps8
  go_wp2_with (go_at_call 15; refine stopAt ?_)
  unfold Hid
  refine (wopen_nil _).mono ?_
  rintro e w1 ⟨rfl, hs1⟩
  have hz := (Row.new w 66 [.pointer none, .int .i64 0, .bool false, .int .i64 0, .int .u64 0, .int .i64 0, .int .i64 0]).keep hs1 trivial
  have HS1 := Lib.hid (((Same.refl (fun _ => True) w).alloc (.cells #[.pointer none, .int .i64 0, .bool false, .int .i64 0, .int .u64 0, .int .i64 0, .int .i64 0] 66)).trans hs1)
  have HZ := Lib.hid hz
  clear hs1 hz
  go_wp2_with (go_at_call 12; refine (dnew_any _).mono ?_; rintro e w2 ⟨g, r, rfl, hg, hr, hD0, hs2⟩)
  have HZ2 := Lib.hid (HZ.out.keep hs2 trivial)
  have HS2 := Lib.hid (HS1.out.trans hs2)
  have hsz2 : w.heap.size < w1.heap.size := Row.lt HZ.out
  clear hs2
  have harm := darm_any g r _ DiskM.new 0 w2 hD0
  go_wp2_with (go_at_call 24; refine stopAt ?_)
  unfold Hid
  refine harm.mono ?_
  rintro e w3 ⟨rfl, hD3, hs3⟩
  have hsyn := dsync_any g r _ (DiskM.new.arm 0) 0 w3 hD3 ⟨by decide, by decide⟩
  have e1 : ((DiskM.new.arm 0).sync 0).1 = 6 := by rfl
  rw [e1] at hsyn
  clear harm
  go_wp2_with (go_at_call 32; refine stopAt ?_)
  unfold Hid
  refine hsyn.mono ?_
  rintro e w4 ⟨rfl, ⟨F4, hF4, hD4⟩, hs4⟩
  have hop := wopen_any g r F4 ((DiskM.new.arm 0).sync 0).2 none none w4 hD4 ⟨by decide, by decide⟩ (by decide) look_nil look_nil (by decide) (by decide)
  have e2 : openW ((DiskM.new.arm 0).sync 0).2 none none = (6, ((DiskM.new.arm 0).sync 0).2, none) := by unfold openW; rw [if_pos (by rfl)]
  rw [e2] at hop
  have HZ4 := Lib.hid ((HZ2.out.keep hs3 (by constructor <;> omega)).keep hs4 (by constructor <;> omega))
  have hsz2b := HS1.out.size
  have HS4 : Hid (Same (fun _ => True) w w4) := Lib.hid ((HS2.out.trans' hs3 fun k hk _ => by constructor <;> omega).trans' hs4 fun k hk _ => by constructor <;> omega)
  clear hsyn hs3 hs4 hD0 hD3 hF4
  go_wp2_with (go_at_call 15; refine stopAt ?_)
  unfold Hid
  refine hop.mono ?_
  intro e w5 hpost
  obtain ⟨A5, c5, F5, rfl, -, -, hs5⟩ := hpost.none_
  have HZ5 := Lib.hid (HZ4.out.keep hs5 (by constructor <;> omega))
  have HS5 : Hid (Same (fun _ => True) w w5) := Lib.hid (HS4.out.trans' hs5 fun k hk _ => by constructor <;> omega)
  clear hop hpost hs5 hD4
  go_wp2_with (go_at_call 9; refine stopAt ?_)
  unfold Hid
  refine (walbegun_any _).mono ?_
  rintro e w6 ⟨rfl, hs6⟩
  have HZ6 := Lib.hid (HZ5.out.keep hs6 trivial)
  have HS6 := Lib.hid (HS5.out.trans hs6)
  have N1 : NoneAt (.pointer none) w6 := wnone_nil w6
  have N2 : NoneAt (ptr w.heap.size) w6 := wnone_zero _ 0 w6 (HZ6.out.cell 0)
  have hlt6 := Row.lt HZ6.out
  have A1 := wappend_none _ _ N1
  have A2 := wappend_none _ _ N2
  have R1 := wrewrite_none _ _ N1
  have S2 := wsync_none _ _ N2
  have C1 := wcount_none _ _ N1
  have C2 := wcount_none _ _ N2
  have B1 := wbytes_none _ _ N1
  have B2 := wbytes_none _ _ N2
  clear hs6 N1 N2
  go_wp2_with (first
    | (go_at_call 18; (first | ((with_reducible refine A1.mono ?_)) | ((with_reducible refine A2.mono ?_))); rintro e w7 ⟨rfl, rfl⟩)
    | (go_at_call 21; refine R1.mono ?_; rintro e w7 ⟨rfl, rfl⟩)
    | (go_at_call 19; refine S2.mono ?_; rintro e w7 ⟨rfl, rfl⟩)
    | (go_at_call 22; (first | ((with_reducible refine C1.mono ?_)) | ((with_reducible refine C2.mono ?_))); rintro e w7 ⟨rfl, rfl⟩)
    | (go_at_call 27; (first | ((with_reducible refine B1.mono ?_)) | ((with_reducible refine B2.mono ?_))); rintro e w7 ⟨rfl, rfl⟩))
  go_ret
  exact ⟨rfl, HS6.out⟩
end Go.Proofs.Ytpjinngngbifoaa
