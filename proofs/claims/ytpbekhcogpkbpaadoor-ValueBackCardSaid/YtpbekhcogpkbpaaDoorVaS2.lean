/-
  Show of any value, the program's and the document's.
-/
import Derived.Test.YtpbekhcogpkbpaaDoorVaS
import Derived.Lib.AppendIntMem
set_option linter.unusedSimpArgs false
set_option linter.unusedVariables false
namespace Go.Proofs.YtpbekhcogpkbpaaDoor
open Go.RowKit

/-- What Go's library asks of its own variables: the powers of ten, and some number in bytealg.MaxLen. -/
structure EnvT (w : World) : Prop where
  tab : Lib.TabIs Tryd.prog w "internal/strconv.uint64pow10" .u64 Lib.pow10Tab
  max : ∃ m, w.cell? ⟨0, 0, none⟩ = some (.int .i64 m)
theorem pow_at : Tryd.prog.globalNamed "internal/strconv.uint64pow10" = some 1 := by kernel_rfl
theorem EnvT.lt {w : World} (h : EnvT w) : 0 < w.heap.size ∧ 1 < w.heap.size := by
  obtain ⟨m, hm⟩ := h.max
  refine ⟨World.block_lt_of_cell? w ⟨0, 0, none⟩ hm, ?_⟩
  have ht := h.tab.cell pow_at 0 (by decide)
  exact World.block_lt_of_cell? w ⟨1, 0, none⟩ ht
theorem EnvT.keep {w w' : World} {S : Nat → Prop} (h : EnvT w) (hs : Same S w w') (h0 : S 0) (h1 : S 1) : EnvT w' := by
  obtain ⟨l0, l1⟩ := h.lt
  have b0 := hs.block 0 l0 h0
  have b1 := hs.block 1 l1 h1
  obtain ⟨m, hm⟩ := h.max
  refine ⟨?_, m, ?_⟩
  · have := h.tab
    unfold Lib.TabIs World.var? at this ⊢
    rw [pow_at] at this ⊢
    simp only [Option.bind_some] at this ⊢
    rw [b1]
    exact this
  · rw [World.cell?_of_block (w := w) (a := ⟨0, 0, none⟩) b0]; exact hm
theorem EnvT.keepAll {w w' : World} (h : EnvT w) (hs : Same (fun _ => True) w w') : EnvT w' := h.keep hs trivial trivial
theorem size_str (l : List UInt8) : (str l).size = l.length := str_size l
set_option maxRecDepth 100000 in
set_option maxHeartbeats 1000000 in
theorem show_no (v : Val) (w : World) (hm : ¬ v.May) : Calls Tryd.prog 18 #[valV v] w (ShowP v w) := by
  have hmv : mayV v = false := by rw [Bool.eq_false_iff]; intro h; exact hm ((mayV_iff v).1 h)
  have hsh : showL v = [] := by unfold showL; rw [if_neg hm]
  unfold ShowP
  rw [hsh]
  clear hsh hm
  have hMay := fun W => exMay_any v W
  unfold BoolP at hMay
  rw [hmv] at hMay
  clear hmv
  go_enter Tryd.func18, Tryd.ntmps18
  go_wp2_with (go_at_call 16; refine stopAt ?_)
  unfold Hid
  refine (hMay _).mono ?_
  rintro e w1 ⟨rfl, hS⟩
  have hrow := (Row.new w 24 (valCs v)).keep hS trivial
  obtain ⟨c0, c1, c2, -, -, -⟩ := val_cells hrow
  have hlb := hrow.lt
  have hsm := ((Same.refl (fun _ => True) w).alloc (.cells (valCs v).toArray 24)).trans hS
  have HS := Lib.hid hsm
  try dsimp only at c0 c1 c2
  clear hS hrow hsm
  go_wp2
  go_ret
  exact ⟨rfl, HS.out⟩
set_option maxRecDepth 100000 in
set_option maxHeartbeats 1000000 in
theorem show_null (w : World) : Calls Tryd.prog 18 #[valV ⟨0, 0, []⟩] w (ShowP ⟨0, 0, []⟩ w) := by
  have hmv : mayV ⟨0, 0, []⟩ = true := by decide
  have hsh : showL ⟨0, 0, []⟩ = [78, 85, 76, 76] := by unfold showL; rw [if_pos (by decide)]; rfl
  unfold ShowP
  rw [hsh]
  clear hsh
  have hMay := fun W => exMay_any ⟨0, 0, []⟩ W
  unfold BoolP at hMay
  rw [hmv] at hMay
  clear hmv
  go_enter Tryd.func18, Tryd.ntmps18
  go_wp2_with (go_at_call 16; refine stopAt ?_)
  unfold Hid
  refine (hMay _).mono ?_
  rintro e w1 ⟨rfl, hS⟩
  have hrow := (Row.new w 24 (valCs ⟨0, 0, []⟩)).keep hS trivial
  obtain ⟨c0, c1, c2, -, -, -⟩ := val_cells hrow
  have hlb := hrow.lt
  have hsm := ((Same.refl (fun _ => True) w).alloc (.cells (valCs ⟨0, 0, []⟩).toArray 24)).trans hS
  have HS := Lib.hid hsm
  try dsimp only at c0 c1 c2
  clear hS hrow hsm
  go_wp2
  go_ret
  exact ⟨rfl, HS.out⟩
set_option maxRecDepth 100000 in
set_option maxHeartbeats 1000000 in
theorem show_true (w : World) : Calls Tryd.prog 18 #[valV ⟨1, 1, []⟩] w (ShowP ⟨1, 1, []⟩ w) := by
  have hmv : mayV ⟨1, 1, []⟩ = true := by decide
  have hsh : showL ⟨1, 1, []⟩ = [84, 82, 85, 69] := by unfold showL; rw [if_pos (by decide)]; rfl
  unfold ShowP
  rw [hsh]
  clear hsh
  have hMay := fun W => exMay_any ⟨1, 1, []⟩ W
  unfold BoolP at hMay
  rw [hmv] at hMay
  clear hmv
  go_enter Tryd.func18, Tryd.ntmps18
  go_wp2_with (go_at_call 16; refine stopAt ?_)
  unfold Hid
  refine (hMay _).mono ?_
  rintro e w1 ⟨rfl, hS⟩
  have hrow := (Row.new w 24 (valCs ⟨1, 1, []⟩)).keep hS trivial
  obtain ⟨c0, c1, c2, -, -, -⟩ := val_cells hrow
  have hlb := hrow.lt
  have hsm := ((Same.refl (fun _ => True) w).alloc (.cells (valCs ⟨1, 1, []⟩).toArray 24)).trans hS
  have HS := Lib.hid hsm
  try dsimp only at c0 c1 c2
  clear hS hrow hsm
  go_wp2
  go_ret
  exact ⟨rfl, HS.out⟩
set_option maxRecDepth 100000 in
set_option maxHeartbeats 1000000 in
theorem show_false (w : World) : Calls Tryd.prog 18 #[valV ⟨1, 0, []⟩] w (ShowP ⟨1, 0, []⟩ w) := by
  have hmv : mayV ⟨1, 0, []⟩ = true := by decide
  have hsh : showL ⟨1, 0, []⟩ = [70, 65, 76, 83, 69] := by unfold showL; rw [if_pos (by decide)]; rfl
  unfold ShowP
  rw [hsh]
  clear hsh
  have hMay := fun W => exMay_any ⟨1, 0, []⟩ W
  unfold BoolP at hMay
  rw [hmv] at hMay
  clear hmv
  go_enter Tryd.func18, Tryd.ntmps18
  go_wp2_with (go_at_call 16; refine stopAt ?_)
  unfold Hid
  refine (hMay _).mono ?_
  rintro e w1 ⟨rfl, hS⟩
  have hrow := (Row.new w 24 (valCs ⟨1, 0, []⟩)).keep hS trivial
  obtain ⟨c0, c1, c2, -, -, -⟩ := val_cells hrow
  have hlb := hrow.lt
  have hsm := ((Same.refl (fun _ => True) w).alloc (.cells (valCs ⟨1, 0, []⟩).toArray 24)).trans hS
  have HS := Lib.hid hsm
  try dsimp only at c0 c1 c2
  clear hS hrow hsm
  go_wp2
  go_ret
  exact ⟨rfl, HS.out⟩
set_option maxRecDepth 100000 in
set_option maxHeartbeats 1000000 in
theorem show_int (n : Int) (w : World) (hn : I64 n) (hE : EnvT w) : Calls Tryd.prog 18 #[valV ⟨2, n, []⟩] w (ShowP ⟨2, n, []⟩ w) := by
  have hmv : mayV ⟨2, n, []⟩ = true := by unfold mayV; simp
  have hsh : showL ⟨2, n, []⟩ = intL n := by unfold showL Val.May; simp
  unfold ShowP
  rw [hsh]
  clear hsh
  have hMay := fun W => exMay_any ⟨2, n, []⟩ W
  unfold BoolP at hMay
  rw [hmv] at hMay
  clear hmv
  go_enter Tryd.func18, Tryd.ntmps18
  go_wp2_with (go_at_call 16; refine stopAt ?_)
  unfold Hid
  refine (hMay _).mono ?_
  rintro e w1 ⟨rfl, hS⟩
  have hrow := (Row.new w 24 (valCs ⟨2, n, []⟩)).keep hS trivial
  obtain ⟨c0, c1, c2, -, -, -⟩ := val_cells hrow
  have hlb := hrow.lt
  have hsm := ((Same.refl (fun _ => True) w).alloc (.cells (valCs ⟨2, n, []⟩).toArray 24)).trans hS
  have HS := Lib.hid hsm
  try dsimp only at c0 c1 c2
  have hEw := hE.keepAll hsm
  have hfi := Tryd.strconv_FormatInt_10 n hn.1 hn.2 w1 hEw.tab
  rw [itoa_int] at hfi
  clear hS hrow hsm hE hEw
  go_wp2_with (go_at_call 37; refine stopAt ?_)
  unfold Hid
  refine hfi.mono ?_
  rintro e w2 ⟨rfl, kk, os, rfl⟩
  have hs2 : Same (fun _ => True) w1 (Sort.grow (w1.drewN kk) os) := (Same.ofBelow (Lib.below_grow w1.heap.size w1 (Nat.le_refl _) kk os)).mono fun i hi _ => hi
  have HS2 := Lib.hid (HS.out.trans hs2)
  clear hs2 hfi
  go_wp2
  go_ret
  exact ⟨rfl, HS2.out⟩
set_option maxRecDepth 100000 in
set_option maxHeartbeats 1000000 in
theorem show_text (s : List UInt8) (w : World) (hs : s.length ≤ 64) (hE : EnvT w) : Calls Tryd.prog 18 #[valV ⟨3, 0, s⟩] w (ShowP ⟨3, 0, s⟩ w) := by
  have hmv : mayV ⟨3, 0, s⟩ = true := by unfold mayV; simp [hs]
  have hsh : showL ⟨3, 0, s⟩ = 39 :: dbl s ++ [39] := by unfold showL Val.May; simp [hs]
  have hdl := dbl_len s
  have hrd := replaceAll_dbl s
  unfold ShowP
  rw [hsh]
  obtain ⟨D, hD⟩ : ∃ D, D = dbl s := ⟨_, rfl⟩
  rw [← hD] at hdl hrd ⊢
  clear hsh hD
  rw [show 39 :: D ++ [39] = 39 :: (D ++ [39]) from rfl]
  have hMay := fun W => exMay_any ⟨3, 0, s⟩ W
  unfold BoolP at hMay
  rw [hmv] at hMay
  clear hmv
  go_enter Tryd.func18, Tryd.ntmps18
  go_wp2_with (go_at_call 16; refine stopAt ?_)
  unfold Hid
  refine (hMay _).mono ?_
  rintro e w1 ⟨rfl, hS⟩
  have hrow := (Row.new w 24 (valCs ⟨3, 0, s⟩)).keep hS trivial
  obtain ⟨c0, c1, c2, -, -, -⟩ := val_cells hrow
  have hlb := hrow.lt
  have hsm := ((Same.refl (fun _ => True) w).alloc (.cells (valCs ⟨3, 0, s⟩).toArray 24)).trans hS
  have HS := Lib.hid hsm
  try dsimp only at c0 c1 c2
  have hEw := hE.keepAll hsm
  obtain ⟨m, hmx⟩ := hEw.max
  have hcb := Lib.countB_le ⟨#[39]⟩ (by decide) _ (str s) (Nat.le_refl _)
  have hra := Tryd.strings_ReplaceAll (str s) ⟨#[39]⟩ ⟨#[39, 39]⟩ m w1 (by rw [str_size]; omega) hmx (by decide) (by
    rw [str_size] at hcb ⊢
    have : (⟨#[39, 39]⟩ : ByteArray).size = 2 := rfl
    rw [this]; omega)
  rw [show (str s).data.toList = s from rfl, show (⟨#[39]⟩ : ByteArray).data.toList = [39] from rfl, show (⟨#[39, 39]⟩ : ByteArray).data.toList = [39, 39] from rfl, hrd] at hra
  have hra : Calls Tryd.prog 38 #[.string (str s), .string ⟨#[39]⟩, .string ⟨#[39, 39]⟩] w1 fun e w' => e = .returned (.string (str D)) ∧ Below w1.heap.size w1 w' := hra
  have a1 : ∀ w, (Op.stringOp .add ⟨#[39]⟩ (str D)).run Tryd.prog w = .ok (.string (str (39 :: D))) w := fun w => add_strs [39] D (by simp) (by omega) w
  have a2 : ∀ w, (Op.stringOp .add (str (39 :: D)) ⟨#[39]⟩).run Tryd.prog w = .ok (.string (str (39 :: (D ++ [39])))) w := fun w => add_strs (39 :: D) [39] (by simp; omega) (by simp) w
  clear hS hrow hsm hE hEw hcb hmx hs hdl hrd
  go_wp2_with (go_at_call 38; refine stopAt ?_)
  unfold Hid
  refine hra.mono ?_
  rintro e w2 ⟨rfl, hbl⟩
  have hs2 : Same (fun _ => True) w1 w2 := (Same.ofBelow hbl).mono fun i hi _ => hi
  have HS2 := Lib.hid (HS.out.trans hs2)
  clear hs2 hra hbl
  go_wp2
  go_ret
  exact ⟨rfl, HS2.out⟩
theorem show_any (v : Val) (w : World) (hn : I64 v.n) (hE : EnvT w) : Calls Tryd.prog 18 #[valV v] w (ShowP v w) := by
  by_cases hm : v.May
  · obtain ⟨k, n, s⟩ := v
    rcases id hm with ⟨h1, h2, h3⟩ | ⟨h1, h2, h3⟩ | ⟨h1, h3⟩ | ⟨h1, h2, h3⟩
    · dsimp only at h1 h2 h3; subst h1 h2 h3; exact show_null w
    · dsimp only at h1 h2 h3; subst h1 h3
      rcases h2 with h2 | h2
      · subst h2; exact show_false w
      · subst h2; exact show_true w
    · dsimp only at h1 h3; subst h1 h3; exact show_int n w hn hE
    · dsimp only at h1 h2 h3; subst h1 h2; exact show_text s w h3 hE
  · exact show_no v w hm
set_option maxRecDepth 100000 in
set_option maxHeartbeats 1000000 in
theorem refshow_no (v : Val) (w : World) (hm : ¬ v.May) : Calls Tryd.prog 19 #[valV v] w (ShowP v w) := by
  have hmv : mayV v = false := by rw [Bool.eq_false_iff]; intro h; exact hm ((mayV_iff v).1 h)
  have hsh : showL v = [] := by unfold showL; rw [if_neg hm]
  unfold ShowP
  rw [hsh]
  clear hsh hm
  have hMay := fun W => refMay_any v W
  unfold BoolP at hMay
  rw [hmv] at hMay
  clear hmv
  go_enter Tryd.func19, Tryd.ntmps19
  go_wp2_with (go_at_call 17; refine stopAt ?_)
  unfold Hid
  refine (hMay _).mono ?_
  rintro e w1 ⟨rfl, hS⟩
  have hrow := (Row.new w 24 (valCs v)).keep hS trivial
  obtain ⟨c0, c1, c2, -, -, -⟩ := val_cells hrow
  have hlb := hrow.lt
  have hsm := ((Same.refl (fun _ => True) w).alloc (.cells (valCs v).toArray 24)).trans hS
  have HS := Lib.hid hsm
  try dsimp only at c0 c1 c2
  clear hS hrow hsm
  go_wp2
  go_ret
  exact ⟨rfl, HS.out⟩
set_option maxRecDepth 100000 in
set_option maxHeartbeats 1000000 in
theorem refshow_null (w : World) : Calls Tryd.prog 19 #[valV ⟨0, 0, []⟩] w (ShowP ⟨0, 0, []⟩ w) := by
  have hmv : mayV ⟨0, 0, []⟩ = true := by decide
  have hsh : showL ⟨0, 0, []⟩ = [78, 85, 76, 76] := by unfold showL; rw [if_pos (by decide)]; rfl
  unfold ShowP
  rw [hsh]
  clear hsh
  have hMay := fun W => refMay_any ⟨0, 0, []⟩ W
  unfold BoolP at hMay
  rw [hmv] at hMay
  clear hmv
  go_enter Tryd.func19, Tryd.ntmps19
  go_wp2_with (go_at_call 17; refine stopAt ?_)
  unfold Hid
  refine (hMay _).mono ?_
  rintro e w1 ⟨rfl, hS⟩
  have hrow := (Row.new w 24 (valCs ⟨0, 0, []⟩)).keep hS trivial
  obtain ⟨c0, c1, c2, -, -, -⟩ := val_cells hrow
  have hlb := hrow.lt
  have hsm := ((Same.refl (fun _ => True) w).alloc (.cells (valCs ⟨0, 0, []⟩).toArray 24)).trans hS
  have HS := Lib.hid hsm
  try dsimp only at c0 c1 c2
  clear hS hrow hsm
  go_wp2
  go_ret
  exact ⟨rfl, HS.out⟩
set_option maxRecDepth 100000 in
set_option maxHeartbeats 1000000 in
theorem refshow_true (w : World) : Calls Tryd.prog 19 #[valV ⟨1, 1, []⟩] w (ShowP ⟨1, 1, []⟩ w) := by
  have hmv : mayV ⟨1, 1, []⟩ = true := by decide
  have hsh : showL ⟨1, 1, []⟩ = [84, 82, 85, 69] := by unfold showL; rw [if_pos (by decide)]; rfl
  unfold ShowP
  rw [hsh]
  clear hsh
  have hMay := fun W => refMay_any ⟨1, 1, []⟩ W
  unfold BoolP at hMay
  rw [hmv] at hMay
  clear hmv
  go_enter Tryd.func19, Tryd.ntmps19
  go_wp2_with (go_at_call 17; refine stopAt ?_)
  unfold Hid
  refine (hMay _).mono ?_
  rintro e w1 ⟨rfl, hS⟩
  have hrow := (Row.new w 24 (valCs ⟨1, 1, []⟩)).keep hS trivial
  obtain ⟨c0, c1, c2, -, -, -⟩ := val_cells hrow
  have hlb := hrow.lt
  have hsm := ((Same.refl (fun _ => True) w).alloc (.cells (valCs ⟨1, 1, []⟩).toArray 24)).trans hS
  have HS := Lib.hid hsm
  try dsimp only at c0 c1 c2
  clear hS hrow hsm
  go_wp2
  go_ret
  exact ⟨rfl, HS.out⟩
set_option maxRecDepth 100000 in
set_option maxHeartbeats 1000000 in
theorem refshow_false (w : World) : Calls Tryd.prog 19 #[valV ⟨1, 0, []⟩] w (ShowP ⟨1, 0, []⟩ w) := by
  have hmv : mayV ⟨1, 0, []⟩ = true := by decide
  have hsh : showL ⟨1, 0, []⟩ = [70, 65, 76, 83, 69] := by unfold showL; rw [if_pos (by decide)]; rfl
  unfold ShowP
  rw [hsh]
  clear hsh
  have hMay := fun W => refMay_any ⟨1, 0, []⟩ W
  unfold BoolP at hMay
  rw [hmv] at hMay
  clear hmv
  go_enter Tryd.func19, Tryd.ntmps19
  go_wp2_with (go_at_call 17; refine stopAt ?_)
  unfold Hid
  refine (hMay _).mono ?_
  rintro e w1 ⟨rfl, hS⟩
  have hrow := (Row.new w 24 (valCs ⟨1, 0, []⟩)).keep hS trivial
  obtain ⟨c0, c1, c2, -, -, -⟩ := val_cells hrow
  have hlb := hrow.lt
  have hsm := ((Same.refl (fun _ => True) w).alloc (.cells (valCs ⟨1, 0, []⟩).toArray 24)).trans hS
  have HS := Lib.hid hsm
  try dsimp only at c0 c1 c2
  clear hS hrow hsm
  go_wp2
  go_ret
  exact ⟨rfl, HS.out⟩
set_option maxRecDepth 100000 in
set_option maxHeartbeats 1000000 in
theorem refshow_int (n : Int) (w : World) (hn : I64 n) : Calls Tryd.prog 19 #[valV ⟨2, n, []⟩] w (ShowP ⟨2, n, []⟩ w) := by
  have hmv : mayV ⟨2, n, []⟩ = true := by unfold mayV; simp
  have hsh : showL ⟨2, n, []⟩ = intL n := by unfold showL Val.May; simp
  unfold ShowP
  rw [hsh]
  clear hsh
  have hMay := fun W => refMay_any ⟨2, n, []⟩ W
  unfold BoolP at hMay
  rw [hmv] at hMay
  clear hmv
  go_enter Tryd.func19, Tryd.ntmps19
  go_wp2_with (go_at_call 17; refine stopAt ?_)
  unfold Hid
  refine (hMay _).mono ?_
  rintro e w1 ⟨rfl, hS⟩
  have hrow := (Row.new w 24 (valCs ⟨2, n, []⟩)).keep hS trivial
  obtain ⟨c0, c1, c2, -, -, -⟩ := val_cells hrow
  have hlb := hrow.lt
  have hsm := ((Same.refl (fun _ => True) w).alloc (.cells (valCs ⟨2, n, []⟩).toArray 24)).trans hS
  have HS := Lib.hid hsm
  try dsimp only at c0 c1 c2
  have hdg := refdigits_int n w1 hn
  clear hS hrow hsm
  go_wp2_with (go_at_call 39; refine hdg.mono ?_; rintro e w2 ⟨rfl, rfl⟩)
  go_ret
  exact ⟨rfl, HS.out⟩
theorem refshow_text' (s : List UInt8) (w : World) (hs : s.length ≤ 64) : Calls Tryd.prog 19 #[valV ⟨3, 0, s⟩] w (ShowP ⟨3, 0, s⟩ w) := by
  have hsh : showL ⟨3, 0, s⟩ = 39 :: dbl s ++ [39] := by unfold showL Val.May; simp [hs]
  unfold ShowP
  rw [hsh]
  exact refshow_text (str s) w (by rw [str_size]; exact hs)
theorem refshow_any (v : Val) (w : World) (hn : I64 v.n) : Calls Tryd.prog 19 #[valV v] w (ShowP v w) := by
  by_cases hm : v.May
  · obtain ⟨k, n, s⟩ := v
    rcases id hm with ⟨h1, h2, h3⟩ | ⟨h1, h2, h3⟩ | ⟨h1, h3⟩ | ⟨h1, h2, h3⟩
    · dsimp only at h1 h2 h3; subst h1 h2 h3; exact refshow_null w
    · dsimp only at h1 h2 h3; subst h1 h3
      rcases h2 with h2 | h2
      · subst h2; exact refshow_false w
      · subst h2; exact refshow_true w
    · dsimp only at h1 h3; subst h1 h3; exact refshow_int n w hn
    · dsimp only at h1 h2 h3; subst h1 h2; exact refshow_text' s w h3
  · exact refshow_no v w hm
end Go.Proofs.YtpbekhcogpkbpaaDoor
