/-
  DiskNone: what a nil disk, and a zero one, answers.
-/
import Derived.Test.YtlnkhkkekfjebaaDiskB
set_option linter.unusedSimpArgs false
set_option linter.unusedVariables false
namespace Go.Proofs.Ytlnkhkkekfjebaa
open Go.RowKit Go.ChangeMaps Go.MapKept

/-- No disk: nil, or one whose map is nil. -/
def NoDisk (w : World) (v : Value) : Prop := v = .pointer none ∨ ∃ g, v = ptr g ∧ w.cell? ⟨g, 0, none⟩ = some (.map none)
theorem NoDisk.keepAll {w w' : World} {v : Value} (h : NoDisk w v) (hs : Same (fun _ => True) w w') : NoDisk w' v := by
  rcases h with h | ⟨g, h, hc⟩
  · exact .inl h
  · exact .inr ⟨g, h, hs.cell trivial hc⟩
theorem no_none (v : Value) (w : World) (h : NoDisk w v) : Calls Try.prog 82 #[v] w fun e w' => e = .returned (.bool true) ∧ w = w' := by
  rcases h with rfl | ⟨g, rfl, hc⟩
  all_goals
    go_enter Try.func82, Try.ntmps82
    go_wp2
    go_ret
    exact ⟨rfl, rfl⟩
theorem no_may (v : Value) (f : Int) (w : World) (h : NoDisk w v) : Calls Try.prog 80 #[v, .int .i64 f] w fun e w' => e = .returned (.int .i64 1) ∧ w = w' := by
  have hn := no_none v w h
  clear h
  go_enter Try.func80, Try.ntmps80
  go_wp2_with (go_at_call 82; refine hn.mono ?_; rintro e w' ⟨rfl, rfl⟩)
  go_ret
  exact ⟨rfl, rfl⟩
theorem no_append (v : Value) (f : Int) (u : Value) (w : World) (h : NoDisk w v) : Calls Try.prog 39 #[v, .int .i64 f, u] w fun e w' => e = .returned (.int .i64 1) ∧ w = w' := by
  have hn := no_may v f w h
  clear h
  go_enter Try.func39, Try.ntmps39
  go_wp2_with (go_at_call 80; refine hn.mono ?_; rintro e w' ⟨rfl, rfl⟩)
  go_ret
  exact ⟨rfl, rfl⟩
theorem no_sync (v : Value) (f : Int) (w : World) (h : NoDisk w v) : Calls Try.prog 43 #[v, .int .i64 f] w fun e w' => e = .returned (.int .i64 1) ∧ w = w' := by
  have hn := no_may v f w h
  clear h
  go_enter Try.func43, Try.ntmps43
  go_wp2_with (go_at_call 80; refine hn.mono ?_; rintro e w' ⟨rfl, rfl⟩)
  go_ret
  exact ⟨rfl, rfl⟩
theorem no_clear (v : Value) (f : Int) (w : World) (h : NoDisk w v) : Calls Try.prog 44 #[v, .int .i64 f] w fun e w' => e = .returned (.int .i64 1) ∧ w = w' := by
  have hn := no_may v f w h
  clear h
  go_enter Try.func44, Try.ntmps44
  go_wp2_with (go_at_call 80; refine hn.mono ?_; rintro e w' ⟨rfl, rfl⟩)
  go_ret
  exact ⟨rfl, rfl⟩
theorem no_read (v : Value) (f : Int) (w : World) (h : NoDisk w v) : Calls Try.prog 41 #[v, .int .i64 f] w fun e w' => e = .returned (.tuple #[.slice none 0 0, .int .i64 1]) ∧ w = w' := by
  have hn := no_may v f w h
  clear h
  go_enter Try.func41, Try.ntmps41
  go_wp2_with (go_at_call 80; refine hn.mono ?_; rintro e w' ⟨rfl, rfl⟩)
  go_ret2
  exact ⟨rfl, rfl⟩
theorem no_arm (v : Value) (n : Int) (w : World) (h : NoDisk w v) : Calls Try.prog 45 #[v, .int .i64 n] w fun e w' => e = .returned (.tuple #[]) ∧ w = w' := by
  have hn := no_none v w h
  clear h
  go_enter Try.func45, Try.ntmps45
  go_wp2_with (go_at_call 82; refine hn.mono ?_; rintro e w' ⟨rfl, rfl⟩)
  exact bodyPost_ret (v := .tuple #[]) (results_none rfl _ _ _) rfl ⟨rfl, rfl⟩
theorem no_power (v : Value) (u : Value) (w : World) (h : NoDisk w v) : Calls Try.prog 40 #[v, u] w fun e w' => e = .returned (.tuple #[]) ∧ w = w' := by
  have hn := no_none v w h
  clear h
  go_enter Try.func40, Try.ntmps40
  go_wp2_with (go_at_call 82; refine hn.mono ?_; rintro e w' ⟨rfl, rfl⟩)
  exact bodyPost_ret (v := .tuple #[]) (results_none rfl _ _ _) rfl ⟨rfl, rfl⟩
theorem no_dead (v : Value) (w : World) (h : NoDisk w v) : Calls Try.prog 50 #[v] w fun e w' => e = .returned (.bool true) ∧ w = w' := by
  have hn := no_none v w h
  clear h
  go_enter Try.func50, Try.ntmps50
  go_wp2_with (go_at_call 82; refine hn.mono ?_; rintro e w' ⟨rfl, rfl⟩)
  go_ret
  exact ⟨rfl, rfl⟩
theorem no_lives (v : Value) (w : World) (h : NoDisk w v) : Calls Try.prog 64 #[v] w fun e w' => e = .returned (.int .i64 0) ∧ w = w' := by
  have hn := no_none v w h
  clear h
  go_enter Try.func64, Try.ntmps64
  go_wp2_with (go_at_call 82; refine hn.mono ?_; rintro e w' ⟨rfl, rfl⟩)
  go_ret
  exact ⟨rfl, rfl⟩
theorem no_steps (v : Value) (w : World) (h : NoDisk w v) : Calls Try.prog 51 #[v] w fun e w' => e = .returned (.int .i64 0) ∧ w = w' := by
  have hn := no_none v w h
  clear h
  go_enter Try.func51, Try.ntmps51
  go_wp2_with (go_at_call 82; refine hn.mono ?_; rintro e w' ⟨rfl, rfl⟩)
  go_ret
  exact ⟨rfl, rfl⟩
theorem no_copy (v : Value) (w : World) (h : NoDisk w v) : Calls Try.prog 62 #[v] w fun e w' => e = .returned (.pointer none) ∧ w = w' := by
  have hn := no_none v w h
  clear h
  go_enter Try.func62, Try.ntmps62
  go_wp2_with (go_at_call 82; refine hn.mono ?_; rintro e w' ⟨rfl, rfl⟩)
  go_ret
  exact ⟨rfl, rfl⟩
set_option maxRecDepth 100000 in
set_option maxHeartbeats 1000000 in
theorem disknone_walk (w : World) : Calls Try.prog 19 #[] w (TrueP w) := by
  obtain ⟨W, hW⟩ : ∃ W, W = w.alloc (.cells #[.map none, .int .i64 0, .bool false, .int .i64 0, .int .i64 0] 79) := ⟨_, rfl⟩
  have hS : Same (fun _ => True) w W := by rw [hW]; exact (Same.refl _ _).alloc _
  have hz : NoDisk W (ptr w.heap.size) := .inr ⟨_, rfl, by rw [hW]; exact (Row.new w _ _).cell 0⟩
  have hn : ∀ W, NoDisk W (.pointer none) := fun _ => .inl rfl
  have a1 := no_arm (.pointer none) 1 W (hn W)
  have a2 := no_power (ptr w.heap.size) (.slice none 0 0) W hz
  have a3 := no_read (.pointer none) 0 W (hn W)
  have HS := Lib.hid hS
  have HZ := Lib.hid hz
  rw [hW] at a1 a2 a3
  clear hS hz hn
  go_enter Try.func19, Try.ntmps19
  go_wp2_with (first
    | (go_at_call 45; refine a1.mono ?_; rintro e w' ⟨rfl, rfl⟩)
    | (go_at_call 40; refine a2.mono ?_; rintro e w' ⟨rfl, rfl⟩)
    | (go_at_call 41; refine a3.mono ?_; rintro e w' ⟨rfl, rfl⟩)
    | (go_at_call 37; refine stopAt ?_))
  unfold Hid
  rw [← hW]
  refine (diskbegun_any _).mono ?_
  rintro e w1 ⟨rfl, hs1⟩
  have hz1 := HZ.out.keepAll hs1
  have hn1 : NoDisk w1 (.pointer none) := .inl rfl
  have b1 := no_append (.pointer none) 0 (.slice none 0 0) w1 hn1
  have b2 := no_sync (ptr w.heap.size) 0 w1 hz1
  have b3 := no_clear (ptr w.heap.size) 1 w1 hz1
  have b4 := fun v (h : NoDisk w1 v) => no_dead v w1 h
  have b5 := fun v (h : NoDisk w1 v) => no_lives v w1 h
  have b6 := fun v (h : NoDisk w1 v) => no_steps v w1 h
  have b7 := fun v (h : NoDisk w1 v) => no_copy v w1 h
  have Hz1 := Lib.hid hz1
  have Hn1 := Lib.hid hn1
  have B4 := Lib.hid b4
  have B5 := Lib.hid b5
  have B6 := Lib.hid b6
  have B7 := Lib.hid b7
  clear hz1 hn1 b4 b5 b6 b7
  go_wp2_with (first
    | (go_at_call 39; refine b1.mono ?_; rintro e w' ⟨rfl, rfl⟩)
    | (go_at_call 43; refine b2.mono ?_; rintro e w' ⟨rfl, rfl⟩)
    | (go_at_call 44; refine b3.mono ?_; rintro e w' ⟨rfl, rfl⟩)
    | (go_at_call 50; refine (B4.out _ (by first | exact Hz1.out | exact Hn1.out)).mono ?_; rintro e w' ⟨rfl, rfl⟩)
    | (go_at_call 64; refine (B5.out _ (by first | exact Hz1.out | exact Hn1.out)).mono ?_; rintro e w' ⟨rfl, rfl⟩)
    | (go_at_call 51; refine (B6.out _ (by first | exact Hz1.out | exact Hn1.out)).mono ?_; rintro e w' ⟨rfl, rfl⟩)
    | (go_at_call 62; refine (B7.out _ (by first | exact Hz1.out | exact Hn1.out)).mono ?_; rintro e w' ⟨rfl, rfl⟩))
  go_ret
  exact ⟨rfl, HS.out.trans hs1⟩
open Go.ChangeShapes Go.WideShapes Go.ChangeAt
set_option maxRecDepth 100000 in
theorem diskNone_law {H : Type} {enc : TypeId × Value → H} : LawWalk Try.prog 19 Try.f19 H enc := by
  intro W base args ds ps hval hA
  rw [Try.params19] at hval
  have hA : DataW.TrodAll enc Try.prog W 0 (fun _ => true) true [] args ds ps := hA
  obtain ⟨rfl, rfl, rfl⟩ := trodAll_nil hA
  exact disknone_walk W
end Go.Proofs.Ytlnkhkkekfjebaa
