/-
  The walks that read values: what they leave, and the short ones.
-/
import Derived.Test.YtpbekhcogpkbpaaDoorVaW2
set_option linter.unusedSimpArgs false
set_option linter.unusedVariables false
namespace Go.Proofs.YtpbekhcogpkbpaaDoor
open Go.RowKit

def TkP (R : Val × Nat × Int) (w : World) (e : Ending) (w' : World) : Prop := e = .returned (.tuple #[valV R.1, .int .i64 R.2.1, .int .i64 R.2.2]) ∧ Same (fun _ => True) w w'
theorem val_cells {w : World} {k : Nat} {v : Val} (h : Row w k 24 (valCs v)) :
    w.cell? ⟨k, 0, none⟩ = some (.int .i64 v.kind) ∧ w.cell? ⟨k, 1, none⟩ = some (.int .i64 v.n) ∧ w.cell? ⟨k, 2, none⟩ = some (.string (str v.s)) ∧ w.frozen? ⟨k, 0, none⟩ = false ∧ w.frozen? ⟨k, 1, none⟩ = false ∧ w.frozen? ⟨k, 2, none⟩ = false :=
  ⟨h.cell 0, h.cell 1, h.cell 2, h.frozen 0, h.frozen 1, h.frozen 2⟩
theorem val_set3 {w wr : World} {v : Val} (u : Val) (HR : Row wr w.heap.size 24 (valCs v)) (HS : Same (fun _ => True) w wr) :
    Row (((wr.setCell ⟨w.heap.size, 0, none⟩ (.int .i64 u.kind)).setCell ⟨w.heap.size, 1, none⟩ (.int .i64 u.n)).setCell ⟨w.heap.size, 2, none⟩ (.string (str u.s))) w.heap.size 24 (valCs u) ∧
    Same (fun _ => True) w (((wr.setCell ⟨w.heap.size, 0, none⟩ (.int .i64 u.kind)).setCell ⟨w.heap.size, 1, none⟩ (.int .i64 u.n)).setCell ⟨w.heap.size, 2, none⟩ (.string (str u.s))) :=
  ⟨((HR.set_ 0 _).set_ 1 _).set_ 2 _, ((HS.setCell (fun h => absurd h (Nat.lt_irrefl _)) _).setCell (fun h => absurd h (Nat.lt_irrefl _)) _).setCell (fun h => absurd h (Nat.lt_irrefl _)) _⟩
theorem val_new (w : World) (v : Val) : Row (w.alloc (.cells #[.int .i64 v.kind, .int .i64 v.n, .string (str v.s)] 24)) w.heap.size 24 (valCs v) := Row.new w 24 (valCs v)
theorem kbool_results {W : World} {k : Nat} {v : Val} {n e : Int} (R : Row W k 24 (valCs v)) {tmps : Array Value}
    (h2 : tmps.getD 2 undef = .pointer (some ⟨k, 0, none⟩)) (h3 : tmps.getD 3 undef = .int .i64 n) (h4 : tmps.getD 4 undef = .int .i64 e) :
    (results Tryd.f45 tmps).run Tryd.prog W = .ok (.tuple #[valV v, .int .i64 n, .int .i64 e]) W := by
  obtain ⟨d0, d1, d2, -⟩ := val_cells R
  simp at h2 h3 h4
  simp [results, Tryd.results45, h2, h3, h4, go_sem, d0, d1, d2]
theorem ktext_results {W : World} {k : Nat} {v : Val} {n e : Int} (R : Row W k 24 (valCs v)) {tmps : Array Value}
    (h2 : tmps.getD 2 undef = .pointer (some ⟨k, 0, none⟩)) (h3 : tmps.getD 3 undef = .int .i64 n) (h4 : tmps.getD 4 undef = .int .i64 e) :
    (results Tryd.f48 tmps).run Tryd.prog W = .ok (.tuple #[valV v, .int .i64 n, .int .i64 e]) W := by
  obtain ⟨d0, d1, d2, -⟩ := val_cells R
  simp at h2 h3 h4
  simp [results, Tryd.results48, h2, h3, h4, go_sem, d0, d1, d2]
theorem kkey_results {W : World} {k : Nat} {v : Val} {n e : Int} (R : Row W k 24 (valCs v)) {tmps : Array Value}
    (h2 : tmps.getD 2 undef = .pointer (some ⟨k, 0, none⟩)) (h3 : tmps.getD 3 undef = .int .i64 n) (h4 : tmps.getD 4 undef = .int .i64 e) :
    (results Tryd.f23 tmps).run Tryd.prog W = .ok (.tuple #[valV v, .int .i64 n, .int .i64 e]) W := by
  obtain ⟨d0, d1, d2, -⟩ := val_cells R
  simp at h2 h3 h4
  simp [results, Tryd.results23, h2, h3, h4, go_sem, d0, d1, d2]
theorem kplain_results {W : World} {k : Nat} {v : Val} {n e : Int} (R : Row W k 24 (valCs v)) {tmps : Array Value}
    (h2 : tmps.getD 2 undef = .pointer (some ⟨k, 0, none⟩)) (h3 : tmps.getD 3 undef = .int .i64 n) (h4 : tmps.getD 4 undef = .int .i64 e) :
    (results Tryd.f25 tmps).run Tryd.prog W = .ok (.tuple #[valV v, .int .i64 n, .int .i64 e]) W := by
  obtain ⟨d0, d1, d2, -⟩ := val_cells R
  simp at h2 h3 h4
  simp [results, Tryd.results25, h2, h3, h4, go_sem, d0, d1, d2]
theorem rkey_results {W : World} {k : Nat} {v : Val} {n e : Int} (R : Row W k 24 (valCs v)) {tmps : Array Value}
    (h2 : tmps.getD 2 undef = .pointer (some ⟨k, 0, none⟩)) (h3 : tmps.getD 3 undef = .int .i64 n) (h4 : tmps.getD 4 undef = .int .i64 e) :
    (results Tryd.f24 tmps).run Tryd.prog W = .ok (.tuple #[valV v, .int .i64 n, .int .i64 e]) W := by
  obtain ⟨d0, d1, d2, -⟩ := val_cells R
  simp at h2 h3 h4
  simp [results, Tryd.results24, h2, h3, h4, go_sem, d0, d1, d2]
theorem rtext_results {W : World} {k : Nat} {v : Val} {n e : Int} (R : Row W k 24 (valCs v)) {tmps : Array Value}
    (h2 : tmps.getD 2 undef = .pointer (some ⟨k, 0, none⟩)) (h3 : tmps.getD 3 undef = .int .i64 n) (h4 : tmps.getD 4 undef = .int .i64 e) :
    (results Tryd.f51 tmps).run Tryd.prog W = .ok (.tuple #[valV v, .int .i64 n, .int .i64 e]) W := by
  obtain ⟨d0, d1, d2, -⟩ := val_cells R
  simp at h2 h3 h4
  simp [results, Tryd.results51, h2, h3, h4, go_sem, d0, d1, d2]
theorem rplain_results {W : World} {k : Nat} {v : Val} {n e : Int} (R : Row W k 24 (valCs v)) {tmps : Array Value}
    (h2 : tmps.getD 2 undef = .pointer (some ⟨k, 0, none⟩)) (h3 : tmps.getD 3 undef = .int .i64 n) (h4 : tmps.getD 4 undef = .int .i64 e) :
    (results Tryd.f26 tmps).run Tryd.prog W = .ok (.tuple #[valV v, .int .i64 n, .int .i64 e]) W := by
  obtain ⟨d0, d1, d2, -⟩ := val_cells R
  simp at h2 h3 h4
  simp [results, Tryd.results26, h2, h3, h4, go_sem, d0, d1, d2]
set_option maxRecDepth 100000 in
set_option maxHeartbeats 600000 in
theorem takebool_any (v : Value) (c : UInt8) (bs : List UInt8) (S : Nat → Prop) (w : World) (hv : By w S v (c :: bs)) (hl : bs.length ≤ 100000) :
    Calls Tryd.prog 45 #[v] w (TkP (takeBoolF bs) w) := by
  obtain ⟨A, cap, rfl, hcap, hm, -⟩ := id hv
  have hcs := (By.cells hv).2
  unfold maxLen at hm
  cases bs with
  | nil =>
    clear hcs hv
    go_enter Tryd.func45, Tryd.ntmps45
    go_wp2
    exact bodyPost_ret (kbool_results (v := va0) (val_new w va0) rfl rfl rfl) rfl ⟨rfl, (Same.refl _ _).alloc _⟩
  | cons d r =>
    obtain ⟨ad, rfl, hcell⟩ := hcs 1 (by simp)
    have hcell : w.cell? ⟨ad.block, ad.off + 1, none⟩ = some (V8 d) := hcell
    have HLT : ad.block < w.heap.size := World.block_lt_of_cell? w ⟨ad.block, ad.off + 1, none⟩ hcell
    have hdb := n8_bd d
    have hnd : n8 d = (d.toNat : Int) := rfl
    clear hcs
    simp only [List.length_cons] at hcap hl ⊢
    by_cases h1 : 1 < d.toNat
    · have g1 : (1 : Int) < n8 d := by omega
      rw [takeBoolF, if_pos h1]
      clear hnd h1 hv
      go_enter Tryd.func45, Tryd.ntmps45
      go_wp2
      refine bodyPost_ret (kbool_results (v := va0) (n := 0) (e := 9) (val_new w va0) rfl rfl rfl) rfl ?_
      exact ⟨rfl, (Same.refl _ _).alloc _⟩
    · have g1 : ¬ (1 : Int) < n8 d := by omega
      rw [takeBoolF, if_neg h1]
      have HND := Lib.hid hnd
      clear hnd h1 hv
      go_enter Tryd.func45, Tryd.ntmps45
      go_wp2
      refine bodyPost_ret (kbool_results (v := ⟨1, d.toNat, []⟩) (n := 2) (e := 0) (val_new w ⟨1, d.toNat, []⟩) rfl rfl rfl) rfl ?_
      exact ⟨rfl, (Same.refl _ _).alloc _⟩
set_option maxRecDepth 100000 in
theorem get_short (v : Value) (bs : List UInt8) (S : Nat → Prop) (w : World) (hv : By w S v bs) (hl : bs.length ≤ 100000) (h : bs.length < 9) :
    Calls Tryd.prog 46 #[v, .int .i64 1, .int .i64 8] w fun e w' => e = .returned (.tuple #[.int .u64 0, .int .i64 2]) ∧ w = w' := by
  obtain ⟨A, cap, rfl, hcap, hm, -⟩ := id hv
  unfold maxLen at hm
  obtain ⟨N, hN⟩ : ∃ N, N = bs.length := ⟨_, rfl⟩
  rw [← hN] at hcap hl h ⊢
  clear hv hN
  go_enter Tryd.func46, Tryd.ntmps46
  go_wp2
  all_goals
    go_ret2
    exact ⟨rfl, rfl⟩
set_option maxRecDepth 100000 in
theorem refget_short (v : Value) (bs : List UInt8) (S : Nat → Prop) (w : World) (hv : By w S v bs) (hl : bs.length ≤ 100000) (h : bs.length < 9) :
    Calls Tryd.prog 49 #[v, .int .i64 1, .int .i64 8] w fun e w' => e = .returned (.tuple #[.int .u64 0, .int .i64 2]) ∧ w = w' := by
  obtain ⟨A, cap, rfl, hcap, hm, -⟩ := id hv
  unfold maxLen at hm
  obtain ⟨N, hN⟩ : ∃ N, N = bs.length := ⟨_, rfl⟩
  rw [← hN] at hcap hl h ⊢
  clear hv hN
  go_enter Tryd.func49, Tryd.ntmps49
  go_wp2
  all_goals
    go_ret2
    exact ⟨rfl, rfl⟩
end Go.Proofs.YtpbekhcogpkbpaaDoor
