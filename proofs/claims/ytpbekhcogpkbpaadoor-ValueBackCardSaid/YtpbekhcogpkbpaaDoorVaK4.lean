/-
  The walks of TakeKey, the program's and the document's.
-/
import Derived.Test.YtpbekhcogpkbpaaDoorVaK3
set_option linter.unusedSimpArgs false
set_option linter.unusedVariables false
namespace Go.Proofs.YtpbekhcogpkbpaaDoor
open Go.RowKit

theorem add0 (ad : Addr) : ad.add 0 = ad := by unfold Addr.add; rfl
theorem getN_8 {l : List UInt8} (h : l.length = 8) : getN l < 18446744073709551616 := by have := getN_lt l; rw [h] at this; exact this
theorem n8_is {c d : UInt8} (h : c = d) : n8 c = n8 d := by rw [h]
theorem n8_no {c d : UInt8} (h : c ≠ d) : ¬ n8 c = n8 d := fun e => h (UInt8.toNat_inj.1 (by unfold n8 at e; exact_mod_cast e))
set_option maxRecDepth 100000 in
set_option maxHeartbeats 1000000 in
theorem takekey_nil (v : Value) (S : Nat → Prop) (w : World) (hv : By w S v []) : Calls Tryd.prog 23 #[v] w (TkP (takeKeyF []) w) := by
  obtain ⟨A, cap, rfl, hcap, hm, -⟩ := id hv
  clear hv
  go_enter Tryd.func23, Tryd.ntmps23
  go_wp2
  exact bodyPost_ret (kkey_results (v := va0) (n := 0) (e := 2) (val_new w va0) rfl rfl rfl) rfl ⟨rfl, (Same.refl _ _).alloc _⟩
set_option maxRecDepth 100000 in
set_option maxHeartbeats 1000000 in
theorem takekey_0 (v : Value) (c : UInt8) (r : List UInt8) (S : Nat → Prop) (w : World) (hv : By w S v (c :: r)) (hl : r.length ≤ 90000) (hc : c = 0) :
    Calls Tryd.prog 23 #[v] w (TkP ((va0, 1, 0)) w) := by
  obtain ⟨A, cap, rfl, hcap, hm, -⟩ := id hv
  have hW := hv.keepAll ((Same.refl _ _).alloc (.cells #[.int .i64 0, .int .i64 0, .string ⟨#[]⟩] 24))
  obtain ⟨ad, rfl, hcell⟩ := (By.cells hv).2 0 (by simp)
  have hcell : w.cell? ad = some (V8 c) := by rw [add0] at hcell; exact hcell
  have HLT : ad.block < w.heap.size := World.block_lt_of_cell? w ad hcell
  have hcb := n8_bd c
  unfold maxLen at hm
  simp only [List.length_cons] at hcap ⊢
  have g0 : n8 c = 0 := n8_is hc
  clear hc hv hW
  go_enter Tryd.func23, Tryd.ntmps23
  go_wp2
  exact bodyPost_ret (kkey_results (v := va0) (n := 1) (e := 0) (val_new w va0) rfl rfl rfl) rfl ⟨rfl, (Same.refl _ _).alloc _⟩
set_option maxRecDepth 100000 in
set_option maxHeartbeats 1000000 in
theorem takekey_1 (v : Value) (c : UInt8) (r : List UInt8) (S : Nat → Prop) (w : World) (hv : By w S v (c :: r)) (hl : r.length ≤ 90000) (hc : c = 1) :
    Calls Tryd.prog 23 #[v] w (TkP (takeBoolF r) w) := by
  obtain ⟨A, cap, rfl, hcap, hm, -⟩ := id hv
  have hW := hv.keepAll ((Same.refl _ _).alloc (.cells #[.int .i64 0, .int .i64 0, .string ⟨#[]⟩] 24))
  obtain ⟨ad, rfl, hcell⟩ := (By.cells hv).2 0 (by simp)
  have hcell : w.cell? ad = some (V8 c) := by rw [add0] at hcell; exact hcell
  have HLT : ad.block < w.heap.size := World.block_lt_of_cell? w ad hcell
  have hcb := n8_bd c
  unfold maxLen at hm
  simp only [List.length_cons] at hcap ⊢
  have g0 : n8 c = 1 := n8_is hc
  clear hc
  have hcl := takebool_any _ c r _ _ hW (by omega)
  obtain ⟨R, hR⟩ : ∃ R, R = takeBoolF r := ⟨_, rfl⟩
  rw [← hR] at hcl ⊢
  simp only [List.length_cons] at hcl
  have HROW := Lib.hid (val_new w va0)
  clear hR hv hW
  go_enter Tryd.func23, Tryd.ntmps23
  go_wp2_with (go_at_call 45; refine stopAt ?_)
  unfold Hid
  refine hcl.mono ?_
  rintro e w2 ⟨rfl, hs2⟩
  have hrow : Row w2 w.heap.size 24 (valCs va0) := HROW.out.keep hs2 trivial
  have hsm : Same (fun _ => True) w w2 := ((Same.refl _ _).alloc _).trans hs2
  obtain ⟨c0, c1, c2, z0, z1, z2⟩ := val_cells hrow
  have hlb := hrow.lt
  have HS := Lib.hid hsm
  have HR2 := Lib.hid hrow
  clear hcl hs2 hrow hsm HROW
  go_wp2
  obtain ⟨r1, r2⟩ := val_set3 R.1 HR2.out HS.out
  refine bodyPost_ret (kkey_results (n := R.2.1) (e := R.2.2) r1 rfl rfl rfl) rfl ?_
  exact ⟨rfl, r2⟩
set_option maxRecDepth 100000 in
set_option maxHeartbeats 1000000 in
theorem takekey_2a (v : Value) (c : UInt8) (r : List UInt8) (S : Nat → Prop) (w : World) (hv : By w S v (c :: r)) (hl : r.length ≤ 90000) (hc : c = 2) (h8 : r.length < 8) :
    Calls Tryd.prog 23 #[v] w (TkP ((va0, 0, 2)) w) := by
  obtain ⟨A, cap, rfl, hcap, hm, -⟩ := id hv
  have hW := hv.keepAll ((Same.refl _ _).alloc (.cells #[.int .i64 0, .int .i64 0, .string ⟨#[]⟩] 24))
  obtain ⟨ad, rfl, hcell⟩ := (By.cells hv).2 0 (by simp)
  have hcell : w.cell? ad = some (V8 c) := by rw [add0] at hcell; exact hcell
  have HLT : ad.block < w.heap.size := World.block_lt_of_cell? w ad hcell
  have hcb := n8_bd c
  unfold maxLen at hm
  simp only [List.length_cons] at hcap ⊢
  have g0 : n8 c = 2 := n8_is hc
  have hget := get_short _ _ _ _ hW (by simp; omega) (by simp; omega)
  simp only [List.length_cons] at hget
  clear hc hv hW h8
  go_enter Tryd.func23, Tryd.ntmps23
  go_wp2_with (go_at_call 46; refine hget.mono ?_; rintro e w' ⟨rfl, rfl⟩)
  exact bodyPost_ret (kkey_results (v := va0) (n := 0) (e := 2) (val_new w va0) rfl rfl rfl) rfl ⟨rfl, (Same.refl _ _).alloc _⟩
set_option maxRecDepth 100000 in
set_option maxHeartbeats 1000000 in
theorem takekey_2b (v : Value) (c : UInt8) (r : List UInt8) (S : Nat → Prop) (w : World) (hv : By w S v (c :: r)) (hl : r.length ≤ 90000) (hc : c = 2) (h8 : ¬ r.length < 8) :
    Calls Tryd.prog 23 #[v] w (TkP ((⟨2, backN (getN (r.take 8)), []⟩, 9, 0)) w) := by
  obtain ⟨A, cap, rfl, hcap, hm, -⟩ := id hv
  have hW := hv.keepAll ((Same.refl _ _).alloc (.cells #[.int .i64 0, .int .i64 0, .string ⟨#[]⟩] 24))
  obtain ⟨ad, rfl, hcell⟩ := (By.cells hv).2 0 (by simp)
  have hcell : w.cell? ad = some (V8 c) := by rw [add0] at hcell; exact hcell
  have HLT : ad.block < w.heap.size := World.block_lt_of_cell? w ad hcell
  have hcb := n8_bd c
  unfold maxLen at hm
  simp only [List.length_cons] at hcap ⊢
  have g0 : n8 c = 2 := n8_is hc
  have hget := get_any _ _ 1 8 _ _ hW (by omega) (by simp; omega)
  rw [show ((c :: r).drop 1).take 8 = r.take 8 from rfl] at hget
  simp only [List.length_cons] at hget
  have hu : getN (r.take 8) < 18446744073709551616 := getN_8 (by simp; omega)
  obtain ⟨u, hun⟩ : ∃ u, u = getN (r.take 8) := ⟨_, rfl⟩
  rw [← hun] at hget hu ⊢
  have hback := fun W => back_any u hu W
  obtain ⟨n, hn⟩ : ∃ n, n = backN u := ⟨_, rfl⟩
  rw [← hn] at hback ⊢
  clear hc hv hW h8 hun hn
  go_enter Tryd.func23, Tryd.ntmps23
  go_wp2_with (first | (go_at_call 46; refine hget.mono ?_; rintro e w' ⟨rfl, rfl⟩) | (go_at_call 47; refine (hback _).mono ?_; rintro e w' ⟨rfl, rfl⟩))
  exact bodyPost_ret (kkey_results (v := ⟨2, n, []⟩) (n := 9) (e := 0) (val_new w ⟨2, n, []⟩) rfl rfl rfl) rfl ⟨rfl, (Same.refl _ _).alloc _⟩
set_option maxRecDepth 100000 in
set_option maxHeartbeats 1000000 in
theorem takekey_3 (v : Value) (c : UInt8) (r : List UInt8) (S : Nat → Prop) (w : World) (hv : By w S v (c :: r)) (hl : r.length ≤ 90000) (hc : c = 3) :
    Calls Tryd.prog 23 #[v] w (TkP (takeTextF r 1 []) w) := by
  obtain ⟨A, cap, rfl, hcap, hm, -⟩ := id hv
  have hW := hv.keepAll ((Same.refl _ _).alloc (.cells #[.int .i64 0, .int .i64 0, .string ⟨#[]⟩] 24))
  obtain ⟨ad, rfl, hcell⟩ := (By.cells hv).2 0 (by simp)
  have hcell : w.cell? ad = some (V8 c) := by rw [add0] at hcell; exact hcell
  have HLT : ad.block < w.heap.size := World.block_lt_of_cell? w ad hcell
  have hcb := n8_bd c
  unfold maxLen at hm
  simp only [List.length_cons] at hcap ⊢
  have g0 : n8 c = 3 := n8_is hc
  clear hc
  have hcl := taketextV_any _ (c :: r) _ _ hW (by simp; omega) (by simp)
  obtain ⟨R, hR⟩ : ∃ R, R = takeTextF r 1 [] := ⟨_, rfl⟩
  rw [show (c :: r).drop 1 = r from rfl, ← hR] at hcl
  rw [← hR]
  simp only [List.length_cons] at hcl
  have HROW := Lib.hid (val_new w va0)
  clear hR hv hW
  go_enter Tryd.func23, Tryd.ntmps23
  go_wp2_with (go_at_call 48; refine stopAt ?_)
  unfold Hid
  refine hcl.mono ?_
  rintro e w2 ⟨rfl, hs2⟩
  have hrow : Row w2 w.heap.size 24 (valCs va0) := HROW.out.keep hs2 trivial
  have hsm : Same (fun _ => True) w w2 := ((Same.refl _ _).alloc _).trans hs2
  obtain ⟨c0, c1, c2, z0, z1, z2⟩ := val_cells hrow
  have hlb := hrow.lt
  have HS := Lib.hid hsm
  have HR2 := Lib.hid hrow
  clear hcl hs2 hrow hsm HROW
  go_wp2
  obtain ⟨r1, r2⟩ := val_set3 R.1 HR2.out HS.out
  refine bodyPost_ret (kkey_results (n := R.2.1) (e := R.2.2) r1 rfl rfl rfl) rfl ?_
  exact ⟨rfl, r2⟩
set_option maxRecDepth 100000 in
set_option maxHeartbeats 1000000 in
theorem takekey_4 (v : Value) (c : UInt8) (r : List UInt8) (S : Nat → Prop) (w : World) (hv : By w S v (c :: r)) (hl : r.length ≤ 90000) (h0 : c ≠ 0) (h1 : c ≠ 1) (h2 : c ≠ 2) (h3 : c ≠ 3) :
    Calls Tryd.prog 23 #[v] w (TkP ((va0, 0, 9)) w) := by
  obtain ⟨A, cap, rfl, hcap, hm, -⟩ := id hv
  have hW := hv.keepAll ((Same.refl _ _).alloc (.cells #[.int .i64 0, .int .i64 0, .string ⟨#[]⟩] 24))
  obtain ⟨ad, rfl, hcell⟩ := (By.cells hv).2 0 (by simp)
  have hcell : w.cell? ad = some (V8 c) := by rw [add0] at hcell; exact hcell
  have HLT : ad.block < w.heap.size := World.block_lt_of_cell? w ad hcell
  have hcb := n8_bd c
  unfold maxLen at hm
  simp only [List.length_cons] at hcap ⊢
  have g0 : ¬ n8 c = 0 := n8_no h0
  have g1 : ¬ n8 c = 1 := n8_no h1
  have g2 : ¬ n8 c = 2 := n8_no h2
  have g3 : ¬ n8 c = 3 := n8_no h3
  clear h0 h1 h2 h3 hv hW
  go_enter Tryd.func23, Tryd.ntmps23
  go_wp2
  exact bodyPost_ret (kkey_results (v := va0) (n := 0) (e := 9) (val_new w va0) rfl rfl rfl) rfl ⟨rfl, (Same.refl _ _).alloc _⟩
theorem takekey_any (v : Value) (b : List UInt8) (S : Nat → Prop) (w : World) (hv : By w S v b) (hl : b.length ≤ 90000) :
    Calls Tryd.prog 23 #[v] w (TkP (takeKeyF b) w) := by
  cases b with
  | nil => exact takekey_nil v S w hv
  | cons c r =>
    have hl : r.length ≤ 90000 := by simp at hl; omega
    rw [takeKeyF]
    by_cases h0 : c = 0
    · rw [if_pos h0]; exact takekey_0 v c r S w hv hl h0
    rw [if_neg h0]
    by_cases h1 : c = 1
    · rw [if_pos h1]
      exact takekey_1 v c r S w hv hl h1
    rw [if_neg h1]
    by_cases h2 : c = 2
    · rw [if_pos h2]
      by_cases h8 : r.length < 8
      · rw [if_pos h8]; exact takekey_2a v c r S w hv hl h2 h8
      · rw [if_neg h8]; exact takekey_2b v c r S w hv hl h2 h8
    rw [if_neg h2]
    by_cases h3 : c = 3
    · rw [if_pos h3]; exact takekey_3 v c r S w hv hl h3
    · rw [if_neg h3]; exact takekey_4 v c r S w hv hl h0 h1 h2 h3
set_option maxRecDepth 100000 in
set_option maxHeartbeats 1000000 in
theorem reftakekey_nil (v : Value) (S : Nat → Prop) (w : World) (hv : By w S v []) : Calls Tryd.prog 24 #[v] w (TkP (takeKeyF []) w) := by
  obtain ⟨A, cap, rfl, hcap, hm, -⟩ := id hv
  clear hv
  go_enter Tryd.func24, Tryd.ntmps24
  go_wp2
  exact bodyPost_ret (rkey_results (v := va0) (n := 0) (e := 2) (val_new w va0) rfl rfl rfl) rfl ⟨rfl, (Same.refl _ _).alloc _⟩
set_option maxRecDepth 100000 in
set_option maxHeartbeats 1000000 in
theorem reftakekey_0 (v : Value) (c : UInt8) (r : List UInt8) (S : Nat → Prop) (w : World) (hv : By w S v (c :: r)) (hl : r.length ≤ 90000) (hc : c = 0) :
    Calls Tryd.prog 24 #[v] w (TkP ((va0, 1, 0)) w) := by
  obtain ⟨A, cap, rfl, hcap, hm, -⟩ := id hv
  have hW := hv.keepAll ((Same.refl _ _).alloc (.cells #[.int .i64 0, .int .i64 0, .string ⟨#[]⟩] 24))
  obtain ⟨ad, rfl, hcell⟩ := (By.cells hv).2 0 (by simp)
  have hcell : w.cell? ad = some (V8 c) := by rw [add0] at hcell; exact hcell
  have HLT : ad.block < w.heap.size := World.block_lt_of_cell? w ad hcell
  have hcb := n8_bd c
  unfold maxLen at hm
  simp only [List.length_cons] at hcap ⊢
  have g0 : n8 c = 0 := n8_is hc
  clear hc hv hW
  go_enter Tryd.func24, Tryd.ntmps24
  go_wp2
  exact bodyPost_ret (rkey_results (v := va0) (n := 1) (e := 0) (val_new w va0) rfl rfl rfl) rfl ⟨rfl, (Same.refl _ _).alloc _⟩
set_option maxRecDepth 100000 in
set_option maxHeartbeats 1000000 in
theorem reftakekey_1a (v : Value) (c : UInt8) (r : List UInt8) (S : Nat → Prop) (w : World) (hv : By w S v (c :: r)) (hl : r.length ≤ 90000) (hc : c = 1) (hr : r = []) :
    Calls Tryd.prog 24 #[v] w (TkP ((va0, 0, 2)) w) := by
  obtain ⟨A, cap, rfl, hcap, hm, -⟩ := id hv
  have hW := hv.keepAll ((Same.refl _ _).alloc (.cells #[.int .i64 0, .int .i64 0, .string ⟨#[]⟩] 24))
  obtain ⟨ad, rfl, hcell⟩ := (By.cells hv).2 0 (by simp)
  have hcell : w.cell? ad = some (V8 c) := by rw [add0] at hcell; exact hcell
  have HLT : ad.block < w.heap.size := World.block_lt_of_cell? w ad hcell
  have hcb := n8_bd c
  unfold maxLen at hm
  simp only [List.length_cons] at hcap ⊢
  have g0 : n8 c = 1 := n8_is hc
  subst hr
  clear hc hv hW
  go_enter Tryd.func24, Tryd.ntmps24
  go_wp2
  exact bodyPost_ret (rkey_results (v := va0) (n := 0) (e := 2) (val_new w va0) rfl rfl rfl) rfl ⟨rfl, (Same.refl _ _).alloc _⟩
set_option maxRecDepth 100000 in
set_option maxHeartbeats 1000000 in
theorem reftakekey_1b (v : Value) (c : UInt8) (r : List UInt8) (S : Nat → Prop) (w : World) (hv : By w S v (c :: r)) (hl : r.length ≤ 90000) (hc : c = 1) (d : UInt8) (r2 : List UInt8) (hr : r = d :: r2) (hd : 1 < d.toNat) :
    Calls Tryd.prog 24 #[v] w (TkP ((va0, 0, 9)) w) := by
  obtain ⟨A, cap, rfl, hcap, hm, -⟩ := id hv
  have hW := hv.keepAll ((Same.refl _ _).alloc (.cells #[.int .i64 0, .int .i64 0, .string ⟨#[]⟩] 24))
  obtain ⟨ad, rfl, hcell⟩ := (By.cells hv).2 0 (by simp)
  have hcell : w.cell? ad = some (V8 c) := by rw [add0] at hcell; exact hcell
  have HLT : ad.block < w.heap.size := World.block_lt_of_cell? w ad hcell
  have hcb := n8_bd c
  unfold maxLen at hm
  simp only [List.length_cons] at hcap ⊢
  have g0 : n8 c = 1 := n8_is hc
  obtain ⟨ad', e', hcell2⟩ := (By.cells hv).2 1 (by rw [hr]; simp)
  injection e' with e'
  subst e'
  have hcell2 : w.cell? ⟨ad.block, ad.off + 1, none⟩ = some (V8 d) := by rw [show (ad.add 1) = ⟨ad.block, ad.off + 1, none⟩ from rfl] at hcell2; rw [hcell2]; simp [hr]
  have hdb := n8_bd d
  have hnd : n8 d = (d.toNat : Int) := rfl
  subst hr
  simp only [List.length_cons] at hcap hl ⊢
  have g1 : (1 : Int) < n8 d := by omega
  clear hc hv hW hnd hd
  go_enter Tryd.func24, Tryd.ntmps24
  go_wp2
  exact bodyPost_ret (rkey_results (v := va0) (n := 0) (e := 9) (val_new w va0) rfl rfl rfl) rfl ⟨rfl, (Same.refl _ _).alloc _⟩
set_option maxRecDepth 100000 in
set_option maxHeartbeats 1000000 in
theorem reftakekey_1c (v : Value) (c : UInt8) (r : List UInt8) (S : Nat → Prop) (w : World) (hv : By w S v (c :: r)) (hl : r.length ≤ 90000) (hc : c = 1) (d : UInt8) (r2 : List UInt8) (hr : r = d :: r2) (hd : ¬ 1 < d.toNat) :
    Calls Tryd.prog 24 #[v] w (TkP ((⟨1, d.toNat, []⟩, 2, 0)) w) := by
  obtain ⟨A, cap, rfl, hcap, hm, -⟩ := id hv
  have hW := hv.keepAll ((Same.refl _ _).alloc (.cells #[.int .i64 0, .int .i64 0, .string ⟨#[]⟩] 24))
  obtain ⟨ad, rfl, hcell⟩ := (By.cells hv).2 0 (by simp)
  have hcell : w.cell? ad = some (V8 c) := by rw [add0] at hcell; exact hcell
  have HLT : ad.block < w.heap.size := World.block_lt_of_cell? w ad hcell
  have hcb := n8_bd c
  unfold maxLen at hm
  simp only [List.length_cons] at hcap ⊢
  have g0 : n8 c = 1 := n8_is hc
  obtain ⟨ad', e', hcell2⟩ := (By.cells hv).2 1 (by rw [hr]; simp)
  injection e' with e'
  subst e'
  have hcell2 : w.cell? ⟨ad.block, ad.off + 1, none⟩ = some (V8 d) := by rw [show (ad.add 1) = ⟨ad.block, ad.off + 1, none⟩ from rfl] at hcell2; rw [hcell2]; simp [hr]
  have hdb := n8_bd d
  have hnd : n8 d = (d.toNat : Int) := rfl
  subst hr
  simp only [List.length_cons] at hcap hl ⊢
  have g1 : ¬ (1 : Int) < n8 d := by omega
  have HND := Lib.hid hnd
  clear hc hv hW hnd hd
  go_enter Tryd.func24, Tryd.ntmps24
  go_wp2
  exact bodyPost_ret (rkey_results (v := ⟨1, d.toNat, []⟩) (n := 2) (e := 0) (val_new w ⟨1, d.toNat, []⟩) rfl rfl rfl) rfl ⟨rfl, (Same.refl _ _).alloc _⟩
set_option maxRecDepth 100000 in
set_option maxHeartbeats 1000000 in
theorem reftakekey_2a (v : Value) (c : UInt8) (r : List UInt8) (S : Nat → Prop) (w : World) (hv : By w S v (c :: r)) (hl : r.length ≤ 90000) (hc : c = 2) (h8 : r.length < 8) :
    Calls Tryd.prog 24 #[v] w (TkP ((va0, 0, 2)) w) := by
  obtain ⟨A, cap, rfl, hcap, hm, -⟩ := id hv
  have hW := hv.keepAll ((Same.refl _ _).alloc (.cells #[.int .i64 0, .int .i64 0, .string ⟨#[]⟩] 24))
  obtain ⟨ad, rfl, hcell⟩ := (By.cells hv).2 0 (by simp)
  have hcell : w.cell? ad = some (V8 c) := by rw [add0] at hcell; exact hcell
  have HLT : ad.block < w.heap.size := World.block_lt_of_cell? w ad hcell
  have hcb := n8_bd c
  unfold maxLen at hm
  simp only [List.length_cons] at hcap ⊢
  have g0 : n8 c = 2 := n8_is hc
  have hget := refget_short _ _ _ _ hW (by simp; omega) (by simp; omega)
  simp only [List.length_cons] at hget
  clear hc hv hW h8
  go_enter Tryd.func24, Tryd.ntmps24
  go_wp2_with (go_at_call 49; refine hget.mono ?_; rintro e w' ⟨rfl, rfl⟩)
  exact bodyPost_ret (rkey_results (v := va0) (n := 0) (e := 2) (val_new w va0) rfl rfl rfl) rfl ⟨rfl, (Same.refl _ _).alloc _⟩
set_option maxRecDepth 100000 in
set_option maxHeartbeats 1000000 in
theorem reftakekey_2b (v : Value) (c : UInt8) (r : List UInt8) (S : Nat → Prop) (w : World) (hv : By w S v (c :: r)) (hl : r.length ≤ 90000) (hc : c = 2) (h8 : ¬ r.length < 8) :
    Calls Tryd.prog 24 #[v] w (TkP ((⟨2, backN (getN (r.take 8)), []⟩, 9, 0)) w) := by
  obtain ⟨A, cap, rfl, hcap, hm, -⟩ := id hv
  have hW := hv.keepAll ((Same.refl _ _).alloc (.cells #[.int .i64 0, .int .i64 0, .string ⟨#[]⟩] 24))
  obtain ⟨ad, rfl, hcell⟩ := (By.cells hv).2 0 (by simp)
  have hcell : w.cell? ad = some (V8 c) := by rw [add0] at hcell; exact hcell
  have HLT : ad.block < w.heap.size := World.block_lt_of_cell? w ad hcell
  have hcb := n8_bd c
  unfold maxLen at hm
  simp only [List.length_cons] at hcap ⊢
  have g0 : n8 c = 2 := n8_is hc
  have hget := refget_any _ _ 1 8 _ _ hW (by omega) (by simp; omega)
  rw [show ((c :: r).drop 1).take 8 = r.take 8 from rfl] at hget
  simp only [List.length_cons] at hget
  have hu : getN (r.take 8) < 18446744073709551616 := getN_8 (by simp; omega)
  obtain ⟨u, hun⟩ : ∃ u, u = getN (r.take 8) := ⟨_, rfl⟩
  rw [← hun] at hget hu ⊢
  have hback := fun W => refback_any u hu W
  obtain ⟨n, hn⟩ : ∃ n, n = backN u := ⟨_, rfl⟩
  rw [← hn] at hback ⊢
  clear hc hv hW h8 hun hn
  go_enter Tryd.func24, Tryd.ntmps24
  go_wp2_with (first | (go_at_call 49; refine hget.mono ?_; rintro e w' ⟨rfl, rfl⟩) | (go_at_call 50; refine (hback _).mono ?_; rintro e w' ⟨rfl, rfl⟩))
  exact bodyPost_ret (rkey_results (v := ⟨2, n, []⟩) (n := 9) (e := 0) (val_new w ⟨2, n, []⟩) rfl rfl rfl) rfl ⟨rfl, (Same.refl _ _).alloc _⟩
set_option maxRecDepth 100000 in
set_option maxHeartbeats 1000000 in
theorem reftakekey_3 (v : Value) (c : UInt8) (r : List UInt8) (S : Nat → Prop) (w : World) (hv : By w S v (c :: r)) (hl : r.length ≤ 90000) (hc : c = 3) :
    Calls Tryd.prog 24 #[v] w (TkP (takeTextF r 1 []) w) := by
  obtain ⟨A, cap, rfl, hcap, hm, -⟩ := id hv
  have hW := hv.keepAll ((Same.refl _ _).alloc (.cells #[.int .i64 0, .int .i64 0, .string ⟨#[]⟩] 24))
  obtain ⟨ad, rfl, hcell⟩ := (By.cells hv).2 0 (by simp)
  have hcell : w.cell? ad = some (V8 c) := by rw [add0] at hcell; exact hcell
  have HLT : ad.block < w.heap.size := World.block_lt_of_cell? w ad hcell
  have hcb := n8_bd c
  unfold maxLen at hm
  simp only [List.length_cons] at hcap ⊢
  have g0 : n8 c = 3 := n8_is hc
  clear hc
  have hcl := reftaketextV_any _ (c :: r) _ _ hW (by simp; omega) (by simp)
  obtain ⟨R, hR⟩ : ∃ R, R = takeTextF r 1 [] := ⟨_, rfl⟩
  rw [show (c :: r).drop 1 = r from rfl, ← hR] at hcl
  rw [← hR]
  simp only [List.length_cons] at hcl
  have HROW := Lib.hid (val_new w va0)
  clear hR hv hW
  go_enter Tryd.func24, Tryd.ntmps24
  go_wp2_with (go_at_call 51; refine stopAt ?_)
  unfold Hid
  refine hcl.mono ?_
  rintro e w2 ⟨rfl, hs2⟩
  have hrow : Row w2 w.heap.size 24 (valCs va0) := HROW.out.keep hs2 trivial
  have hsm : Same (fun _ => True) w w2 := ((Same.refl _ _).alloc _).trans hs2
  obtain ⟨c0, c1, c2, z0, z1, z2⟩ := val_cells hrow
  have hlb := hrow.lt
  have HS := Lib.hid hsm
  have HR2 := Lib.hid hrow
  clear hcl hs2 hrow hsm HROW
  go_wp2
  obtain ⟨r1, r2⟩ := val_set3 R.1 HR2.out HS.out
  refine bodyPost_ret (rkey_results (n := R.2.1) (e := R.2.2) r1 rfl rfl rfl) rfl ?_
  exact ⟨rfl, r2⟩
set_option maxRecDepth 100000 in
set_option maxHeartbeats 1000000 in
theorem reftakekey_4 (v : Value) (c : UInt8) (r : List UInt8) (S : Nat → Prop) (w : World) (hv : By w S v (c :: r)) (hl : r.length ≤ 90000) (h0 : c ≠ 0) (h1 : c ≠ 1) (h2 : c ≠ 2) (h3 : c ≠ 3) :
    Calls Tryd.prog 24 #[v] w (TkP ((va0, 0, 9)) w) := by
  obtain ⟨A, cap, rfl, hcap, hm, -⟩ := id hv
  have hW := hv.keepAll ((Same.refl _ _).alloc (.cells #[.int .i64 0, .int .i64 0, .string ⟨#[]⟩] 24))
  obtain ⟨ad, rfl, hcell⟩ := (By.cells hv).2 0 (by simp)
  have hcell : w.cell? ad = some (V8 c) := by rw [add0] at hcell; exact hcell
  have HLT : ad.block < w.heap.size := World.block_lt_of_cell? w ad hcell
  have hcb := n8_bd c
  unfold maxLen at hm
  simp only [List.length_cons] at hcap ⊢
  have g0 : ¬ n8 c = 0 := n8_no h0
  have g1 : ¬ n8 c = 1 := n8_no h1
  have g2 : ¬ n8 c = 2 := n8_no h2
  have g3 : ¬ n8 c = 3 := n8_no h3
  clear h0 h1 h2 h3 hv hW
  go_enter Tryd.func24, Tryd.ntmps24
  go_wp2
  exact bodyPost_ret (rkey_results (v := va0) (n := 0) (e := 9) (val_new w va0) rfl rfl rfl) rfl ⟨rfl, (Same.refl _ _).alloc _⟩
theorem reftakekey_any (v : Value) (b : List UInt8) (S : Nat → Prop) (w : World) (hv : By w S v b) (hl : b.length ≤ 90000) :
    Calls Tryd.prog 24 #[v] w (TkP (takeKeyF b) w) := by
  cases b with
  | nil => exact reftakekey_nil v S w hv
  | cons c r =>
    have hl : r.length ≤ 90000 := by simp at hl; omega
    rw [takeKeyF]
    by_cases h0 : c = 0
    · rw [if_pos h0]; exact reftakekey_0 v c r S w hv hl h0
    rw [if_neg h0]
    by_cases h1 : c = 1
    · rw [if_pos h1]
      cases hr : r with
      | nil => rw [takeBoolF]; rw [hr] at hv hl; exact reftakekey_1a v c [] S w hv hl h1 rfl
      | cons d r2 =>
        rw [takeBoolF]
        rw [hr] at hv hl
        by_cases hd : 1 < d.toNat
        · rw [if_pos hd]; exact reftakekey_1b v c _ S w hv hl h1 d r2 rfl hd
        · rw [if_neg hd]; exact reftakekey_1c v c _ S w hv hl h1 d r2 rfl hd
    rw [if_neg h1]
    by_cases h2 : c = 2
    · rw [if_pos h2]
      by_cases h8 : r.length < 8
      · rw [if_pos h8]; exact reftakekey_2a v c r S w hv hl h2 h8
      · rw [if_neg h8]; exact reftakekey_2b v c r S w hv hl h2 h8
    rw [if_neg h2]
    by_cases h3 : c = 3
    · rw [if_pos h3]; exact reftakekey_3 v c r S w hv hl h3
    · rw [if_neg h3]; exact reftakekey_4 v c r S w hv hl h0 h1 h2 h3
end Go.Proofs.YtpbekhcogpkbpaaDoor
