/-
  The walks of Take, the program's and the document's.
-/
import Derived.Test.YtpbekhcogpkbpaaDoorVaK4
set_option linter.unusedSimpArgs false
set_option linter.unusedVariables false
namespace Go.Proofs.YtpbekhcogpkbpaaDoor
open Go.RowKit

theorem takeTxF_len (b : List UInt8) : (takeTxF b).1.length ≤ b.length ∧ (takeTxF b).2.1 ≤ b.length ∧ ((takeTxF b).2.2 ≠ 0 → (takeTxF b).1 = [] ∧ (takeTxF b).2.1 = 0) := by
  unfold takeTxF
  have hok := takeVarF_ok b 0 0
  obtain ⟨⟨u, k, e⟩, hR⟩ : ∃ R, R = takeVarF b 0 0 := ⟨_, rfl⟩
  rw [← hR] at hok ⊢
  dsimp only
  by_cases he : e = 0
  · subst he
    have := hok u k rfl
    rw [if_neg (by simp)]
    by_cases h1 : 1048576 < u
    · rw [if_pos h1]; simp
    · rw [if_neg h1]
      by_cases h2 : b.length - k < u
      · rw [if_pos h2]; simp
      · rw [if_neg h2]; simp; omega
  · rw [if_pos he]; simp
set_option maxRecDepth 100000 in
set_option maxHeartbeats 1000000 in
theorem take_nil (v : Value) (S : Nat → Prop) (w : World) (hv : By w S v []) : Calls Tryd.prog 25 #[v] w (TkP (takeF []) w) := by
  obtain ⟨A, cap, rfl, hcap, hm, -⟩ := id hv
  clear hv
  go_enter Tryd.func25, Tryd.ntmps25
  go_wp2
  exact bodyPost_ret (kplain_results (v := va0) (n := 0) (e := 2) (val_new w va0) rfl rfl rfl) rfl ⟨rfl, (Same.refl _ _).alloc _⟩
set_option maxRecDepth 100000 in
set_option maxHeartbeats 1000000 in
theorem take_0 (v : Value) (c : UInt8) (r : List UInt8) (S : Nat → Prop) (w : World) (hv : By w S v (c :: r)) (hl : r.length ≤ 80000) (hc : c = 0) :
    Calls Tryd.prog 25 #[v] w (TkP (va0, 1, 0) w) := by
  obtain ⟨A, cap, rfl, hcap, hm, -⟩ := id hv
  have hW := hv.keepAll ((Same.refl _ _).alloc (.cells #[.int .i64 0, .int .i64 0, .string ⟨#[]⟩] 24))
  obtain ⟨ad, rfl, hcell⟩ := (By.cells hv).2 0 (by simp)
  have hcell : w.cell? ad = some (V8 c) := by rw [add0] at hcell; exact hcell
  have HLT : ad.block < w.heap.size := World.block_lt_of_cell? w ad hcell
  have hcb := n8_bd c
  unfold maxLen at hm
  simp only [List.length_cons] at hcap ⊢
  have g0 : n8 c = 0 := n8_is hc
  clear hc hv hW
  go_enter Tryd.func25, Tryd.ntmps25
  go_wp2
  exact bodyPost_ret (kplain_results (v := va0) (n := 1) (e := 0) (val_new w va0) rfl rfl rfl) rfl ⟨rfl, (Same.refl _ _).alloc _⟩
set_option maxRecDepth 100000 in
set_option maxHeartbeats 1000000 in
theorem take_1 (v : Value) (c : UInt8) (r : List UInt8) (S : Nat → Prop) (w : World) (hv : By w S v (c :: r)) (hl : r.length ≤ 80000) (hc : c = 1) :
    Calls Tryd.prog 25 #[v] w (TkP (takeBoolF r) w) := by
  obtain ⟨A, cap, rfl, hcap, hm, -⟩ := id hv
  have hW := hv.keepAll ((Same.refl _ _).alloc (.cells #[.int .i64 0, .int .i64 0, .string ⟨#[]⟩] 24))
  obtain ⟨ad, rfl, hcell⟩ := (By.cells hv).2 0 (by simp)
  have hcell : w.cell? ad = some (V8 c) := by rw [add0] at hcell; exact hcell
  have HLT : ad.block < w.heap.size := World.block_lt_of_cell? w ad hcell
  have hcb := n8_bd c
  unfold maxLen at hm
  simp only [List.length_cons] at hcap ⊢
  have g0 : n8 c = 1 := n8_is hc
  clear hc
  have hcl := takebool_any _ c r _ _ hW (by omega)
  obtain ⟨R, hR⟩ : ∃ R, R = takeBoolF r := ⟨_, rfl⟩
  rw [← hR] at hcl ⊢
  simp only [List.length_cons] at hcl
  have HROW := Lib.hid (val_new w va0)
  clear hR hv hW
  go_enter Tryd.func25, Tryd.ntmps25
  go_wp2_with (go_at_call 45; refine stopAt ?_)
  unfold Hid
  refine hcl.mono ?_
  rintro e w2 ⟨rfl, hs2⟩
  have hrow : Row w2 w.heap.size 24 (valCs va0) := HROW.out.keep hs2 trivial
  have hsm : Same (fun _ => True) w w2 := ((Same.refl _ _).alloc _).trans hs2
  obtain ⟨c0, c1, c2, z0, z1, z2⟩ := val_cells hrow
  have hlb := hrow.lt
  have HS := Lib.hid hsm
  have HR2 := Lib.hid hrow
  clear hcl hs2 hrow hsm HROW
  go_wp2
  obtain ⟨r1, r2⟩ := val_set3 R.1 HR2.out HS.out
  refine bodyPost_ret (kplain_results (n := R.2.1) (e := R.2.2) r1 rfl rfl rfl) rfl ?_
  exact ⟨rfl, r2⟩
set_option maxRecDepth 100000 in
set_option maxHeartbeats 1000000 in
theorem take_2e (v : Value) (c : UInt8) (r : List UInt8) (S : Nat → Prop) (w : World) (hv : By w S v (c :: r)) (hl : r.length ≤ 80000) (hc : c = 2) (u k : Nat) (e : Int) (hR : takeVarF r 0 0 = (u, k, e)) (he : e ≠ 0) :
    Calls Tryd.prog 25 #[v] w (TkP (va0, 0, e) w) := by
  obtain ⟨A, cap, rfl, hcap, hm, -⟩ := id hv
  have hW := hv.keepAll ((Same.refl _ _).alloc (.cells #[.int .i64 0, .int .i64 0, .string ⟨#[]⟩] 24))
  obtain ⟨ad, rfl, hcell⟩ := (By.cells hv).2 0 (by simp)
  have hcell : w.cell? ad = some (V8 c) := by rw [add0] at hcell; exact hcell
  have HLT : ad.block < w.heap.size := World.block_lt_of_cell? w ad hcell
  have hcb := n8_bd c
  unfold maxLen at hm
  simp only [List.length_cons] at hcap ⊢
  have g0 : n8 c = 2 := n8_is hc
  by_cases hck : cap = 1
  · subst hck
    have hr0 : r = [] := by cases r with | nil => rfl | cons a b => simp at hcap
    subst hr0
    have hcut : By (w.alloc (.cells #[.int .i64 0, .int .i64 0, .string ⟨#[]⟩] 24)) S (.slice (some ad) 0 0) [] := By.none_ _ _ _ _ (by simp [maxLen])
    have hvar := takevar_any _ _ _ _ hcut (by first | omega | simp)
    unfold VarP at hvar
    rw [hR] at hvar
    simp only at hvar
    clear hc hv hW hcut hR
    go_enter Tryd.func25, Tryd.ntmps25
    go_wp2_with (go_at_call 52; refine hvar.mono ?_; rintro e w' ⟨rfl, rfl⟩)
    exact bodyPost_ret (kplain_results (v := va0) (n := 0) (e := e) (val_new w va0) rfl rfl rfl) rfl ⟨rfl, (Same.refl _ _).alloc _⟩
  · have hcut := hW.cut 1 (r.length + 1) (cap - 1) (by omega) (by simp) (by omega) (by simp only [maxLen]; omega)
    rw [show r.length + 1 - 1 = r.length by omega, show ((c :: r).drop 1).take r.length = r by simp] at hcut
    have hvar := takevar_any _ _ _ _ hcut (by first | omega | simp)
    unfold VarP at hvar
    rw [hR] at hvar
    simp only at hvar
    clear hc hv hW hcut hR
    go_enter Tryd.func25, Tryd.ntmps25
    go_wp2_with (go_at_call 52; refine hvar.mono ?_; rintro e w' ⟨rfl, rfl⟩)
    exact bodyPost_ret (kplain_results (v := va0) (n := 0) (e := e) (val_new w va0) rfl rfl rfl) rfl ⟨rfl, (Same.refl _ _).alloc _⟩
set_option maxRecDepth 100000 in
set_option maxHeartbeats 1000000 in
theorem take_2o (v : Value) (c : UInt8) (r : List UInt8) (S : Nat → Prop) (w : World) (hv : By w S v (c :: r)) (hl : r.length ≤ 80000) (hc : c = 2) (u k : Nat) (hR : takeVarF r 0 0 = (u, k, 0)) :
    Calls Tryd.prog 25 #[v] w (TkP (⟨2, zagN u, []⟩, 1 + k, 0) w) := by
  obtain ⟨A, cap, rfl, hcap, hm, -⟩ := id hv
  have hW := hv.keepAll ((Same.refl _ _).alloc (.cells #[.int .i64 0, .int .i64 0, .string ⟨#[]⟩] 24))
  obtain ⟨ad, rfl, hcell⟩ := (By.cells hv).2 0 (by simp)
  have hcell : w.cell? ad = some (V8 c) := by rw [add0] at hcell; exact hcell
  have HLT : ad.block < w.heap.size := World.block_lt_of_cell? w ad hcell
  have hcb := n8_bd c
  unfold maxLen at hm
  simp only [List.length_cons] at hcap ⊢
  have g0 : n8 c = 2 := n8_is hc
  have hkb := (takeVarF_ok r 0 0 u k hR).2
  have hu := takeVarF_lt r
  rw [hR] at hu
  dsimp only at hu
  have hzag := fun W => zag_any u hu W
  obtain ⟨n, hn⟩ : ∃ n, n = zagN u := ⟨_, rfl⟩
  rw [← hn] at hzag ⊢
  by_cases hck : cap = 1
  · subst hck
    have hr0 : r = [] := by cases r with | nil => rfl | cons a b => simp at hcap
    subst hr0
    have hcut : By (w.alloc (.cells #[.int .i64 0, .int .i64 0, .string ⟨#[]⟩] 24)) S (.slice (some ad) 0 0) [] := By.none_ _ _ _ _ (by simp [maxLen])
    have hvar := takevar_any _ _ _ _ hcut (by first | omega | simp)
    unfold VarP at hvar
    rw [hR] at hvar
    simp only at hvar
    clear hc hv hW hcut hR hn
    go_enter Tryd.func25, Tryd.ntmps25
    go_wp2_with (first | (go_at_call 52; refine hvar.mono ?_; rintro e w' ⟨rfl, rfl⟩) | (go_at_call 53; refine (hzag _).mono ?_; rintro e w' ⟨rfl, rfl⟩))
    exact bodyPost_ret (kplain_results (v := ⟨2, n, []⟩) (n := ((1 + k : Nat) : Int)) (e := 0) (val_new w ⟨2, n, []⟩) rfl rfl rfl) rfl ⟨rfl, (Same.refl _ _).alloc _⟩
  · have hcut := hW.cut 1 (r.length + 1) (cap - 1) (by omega) (by simp) (by omega) (by simp only [maxLen]; omega)
    rw [show r.length + 1 - 1 = r.length by omega, show ((c :: r).drop 1).take r.length = r by simp] at hcut
    have hvar := takevar_any _ _ _ _ hcut (by first | omega | simp)
    unfold VarP at hvar
    rw [hR] at hvar
    simp only at hvar
    clear hc hv hW hcut hR hn
    go_enter Tryd.func25, Tryd.ntmps25
    go_wp2_with (first | (go_at_call 52; refine hvar.mono ?_; rintro e w' ⟨rfl, rfl⟩) | (go_at_call 53; refine (hzag _).mono ?_; rintro e w' ⟨rfl, rfl⟩))
    exact bodyPost_ret (kplain_results (v := ⟨2, n, []⟩) (n := ((1 + k : Nat) : Int)) (e := 0) (val_new w ⟨2, n, []⟩) rfl rfl rfl) rfl ⟨rfl, (Same.refl _ _).alloc _⟩
set_option maxRecDepth 100000 in
set_option maxHeartbeats 1000000 in
theorem take_3e (v : Value) (c : UInt8) (r : List UInt8) (S : Nat → Prop) (w : World) (hv : By w S v (c :: r)) (hl : r.length ≤ 80000) (hc : c = 3) (s : List UInt8) (k : Nat) (e : Int) (hR : takeTxF r = (s, k, e)) (he : e ≠ 0) (L : Nat) (hLs : s.length = L) (hL : L ≤ 80000) :
    Calls Tryd.prog 25 #[v] w (TkP (va0, 0, e) w) := by
  obtain ⟨A, cap, rfl, hcap, hm, -⟩ := id hv
  have hW := hv.keepAll ((Same.refl _ _).alloc (.cells #[.int .i64 0, .int .i64 0, .string ⟨#[]⟩] 24))
  obtain ⟨ad, rfl, hcell⟩ := (By.cells hv).2 0 (by simp)
  have hcell : w.cell? ad = some (V8 c) := by rw [add0] at hcell; exact hcell
  have HLT : ad.block < w.heap.size := World.block_lt_of_cell? w ad hcell
  have hcb := n8_bd c
  unfold maxLen at hm
  simp only [List.length_cons] at hcap ⊢
  have g0 : n8 c = 3 := n8_is hc
  by_cases hck : cap = 1
  · subst hck
    have hr0 : r = [] := by cases r with | nil => rfl | cons a b => simp at hcap
    subst hr0
    have hcut : By (w.alloc (.cells #[.int .i64 0, .int .i64 0, .string ⟨#[]⟩] 24)) S (.slice (some ad) 0 0) [] := By.none_ _ _ _ _ (by simp [maxLen])
    have htx := taketext_any _ _ _ _ hcut (by first | omega | simp)
    unfold TxP at htx
    rw [hR] at htx
    dsimp only at htx
    have HROW := Lib.hid (val_new w va0)
    clear hc hv hW hcut hR
    go_enter Tryd.func25, Tryd.ntmps25
    go_wp2_with (go_at_call 54; refine stopAt ?_)
    unfold Hid
    refine htx.mono ?_
    rintro e' w2 ⟨uu, rfl, huo, hs2⟩
    obtain ⟨A2, c2', rfl, hc2a, hc2b⟩ := huo.formN hLs
    have hrow : Row w2 w.heap.size 24 (valCs va0) := HROW.out.keep hs2 trivial
    have hsm : Same (fun _ => True) w w2 := ((Same.refl _ _).alloc _).trans hs2
    obtain ⟨c0, c1, c2, z0, z1, z2⟩ := val_cells hrow
    have hlb := hrow.lt
    have HS := Lib.hid hsm
    have HR2 := Lib.hid hrow
    have HU := Lib.hid huo.by_
    clear htx hs2 hrow hsm HROW huo
    go_wp2
    obtain ⟨r1, r2⟩ := val_set3 va0 HR2.out HS.out
    refine bodyPost_ret (kplain_results (n := 0) (e := e) r1 rfl rfl rfl) rfl ?_
    exact ⟨rfl, r2⟩
  · have hcut := hW.cut 1 (r.length + 1) (cap - 1) (by omega) (by simp) (by omega) (by simp only [maxLen]; omega)
    rw [show r.length + 1 - 1 = r.length by omega, show ((c :: r).drop 1).take r.length = r by simp] at hcut
    have htx := taketext_any _ _ _ _ hcut (by first | omega | simp)
    unfold TxP at htx
    rw [hR] at htx
    dsimp only at htx
    have HROW := Lib.hid (val_new w va0)
    clear hc hv hW hcut hR
    go_enter Tryd.func25, Tryd.ntmps25
    go_wp2_with (go_at_call 54; refine stopAt ?_)
    unfold Hid
    refine htx.mono ?_
    rintro e' w2 ⟨uu, rfl, huo, hs2⟩
    obtain ⟨A2, c2', rfl, hc2a, hc2b⟩ := huo.formN hLs
    have hrow : Row w2 w.heap.size 24 (valCs va0) := HROW.out.keep hs2 trivial
    have hsm : Same (fun _ => True) w w2 := ((Same.refl _ _).alloc _).trans hs2
    obtain ⟨c0, c1, c2, z0, z1, z2⟩ := val_cells hrow
    have hlb := hrow.lt
    have HS := Lib.hid hsm
    have HR2 := Lib.hid hrow
    have HU := Lib.hid huo.by_
    clear htx hs2 hrow hsm HROW huo
    go_wp2
    obtain ⟨r1, r2⟩ := val_set3 va0 HR2.out HS.out
    refine bodyPost_ret (kplain_results (n := 0) (e := e) r1 rfl rfl rfl) rfl ?_
    exact ⟨rfl, r2⟩
set_option maxRecDepth 100000 in
set_option maxHeartbeats 1000000 in
theorem take_3l (v : Value) (c : UInt8) (r : List UInt8) (S : Nat → Prop) (w : World) (hv : By w S v (c :: r)) (hl : r.length ≤ 80000) (hc : c = 3) (s : List UInt8) (k : Nat) (hR : takeTxF r = (s, k, 0)) (L : Nat) (hLs : s.length = L) (hL : L ≤ 80000) (hlong : 64 < L) :
    Calls Tryd.prog 25 #[v] w (TkP (va0, 0, 3) w) := by
  obtain ⟨A, cap, rfl, hcap, hm, -⟩ := id hv
  have hW := hv.keepAll ((Same.refl _ _).alloc (.cells #[.int .i64 0, .int .i64 0, .string ⟨#[]⟩] 24))
  obtain ⟨ad, rfl, hcell⟩ := (By.cells hv).2 0 (by simp)
  have hcell : w.cell? ad = some (V8 c) := by rw [add0] at hcell; exact hcell
  have HLT : ad.block < w.heap.size := World.block_lt_of_cell? w ad hcell
  have hcb := n8_bd c
  unfold maxLen at hm
  simp only [List.length_cons] at hcap ⊢
  have g0 : n8 c = 3 := n8_is hc
  by_cases hck : cap = 1
  · subst hck
    have hr0 : r = [] := by cases r with | nil => rfl | cons a b => simp at hcap
    subst hr0
    have hcut : By (w.alloc (.cells #[.int .i64 0, .int .i64 0, .string ⟨#[]⟩] 24)) S (.slice (some ad) 0 0) [] := By.none_ _ _ _ _ (by simp [maxLen])
    have htx := taketext_any _ _ _ _ hcut (by first | omega | simp)
    unfold TxP at htx
    rw [hR] at htx
    dsimp only at htx
    have HROW := Lib.hid (val_new w va0)
    clear hc hv hW hcut hR
    go_enter Tryd.func25, Tryd.ntmps25
    go_wp2_with (go_at_call 54; refine stopAt ?_)
    unfold Hid
    refine htx.mono ?_
    rintro e' w2 ⟨uu, rfl, huo, hs2⟩
    obtain ⟨A2, c2', rfl, hc2a, hc2b⟩ := huo.formN hLs
    have hrow : Row w2 w.heap.size 24 (valCs va0) := HROW.out.keep hs2 trivial
    have hsm : Same (fun _ => True) w w2 := ((Same.refl _ _).alloc _).trans hs2
    obtain ⟨c0, c1, c2, z0, z1, z2⟩ := val_cells hrow
    have hlb := hrow.lt
    have HS := Lib.hid hsm
    have HR2 := Lib.hid hrow
    have HU := Lib.hid huo.by_
    clear htx hs2 hrow hsm HROW huo
    go_wp2
    obtain ⟨r1, r2⟩ := val_set3 va0 HR2.out HS.out
    refine bodyPost_ret (kplain_results (n := 0) (e := 3) r1 rfl rfl rfl) rfl ?_
    exact ⟨rfl, r2⟩
  · have hcut := hW.cut 1 (r.length + 1) (cap - 1) (by omega) (by simp) (by omega) (by simp only [maxLen]; omega)
    rw [show r.length + 1 - 1 = r.length by omega, show ((c :: r).drop 1).take r.length = r by simp] at hcut
    have htx := taketext_any _ _ _ _ hcut (by first | omega | simp)
    unfold TxP at htx
    rw [hR] at htx
    dsimp only at htx
    have HROW := Lib.hid (val_new w va0)
    clear hc hv hW hcut hR
    go_enter Tryd.func25, Tryd.ntmps25
    go_wp2_with (go_at_call 54; refine stopAt ?_)
    unfold Hid
    refine htx.mono ?_
    rintro e' w2 ⟨uu, rfl, huo, hs2⟩
    obtain ⟨A2, c2', rfl, hc2a, hc2b⟩ := huo.formN hLs
    have hrow : Row w2 w.heap.size 24 (valCs va0) := HROW.out.keep hs2 trivial
    have hsm : Same (fun _ => True) w w2 := ((Same.refl _ _).alloc _).trans hs2
    obtain ⟨c0, c1, c2, z0, z1, z2⟩ := val_cells hrow
    have hlb := hrow.lt
    have HS := Lib.hid hsm
    have HR2 := Lib.hid hrow
    have HU := Lib.hid huo.by_
    clear htx hs2 hrow hsm HROW huo
    go_wp2
    obtain ⟨r1, r2⟩ := val_set3 va0 HR2.out HS.out
    refine bodyPost_ret (kplain_results (n := 0) (e := 3) r1 rfl rfl rfl) rfl ?_
    exact ⟨rfl, r2⟩
set_option maxRecDepth 100000 in
set_option maxHeartbeats 1000000 in
theorem take_3o (v : Value) (c : UInt8) (r : List UInt8) (S : Nat → Prop) (w : World) (hv : By w S v (c :: r)) (hl : r.length ≤ 80000) (hc : c = 3) (s : List UInt8) (k : Nat) (hR : takeTxF r = (s, k, 0)) (L : Nat) (hLs : s.length = L) (hL : L ≤ 80000) (hlong : ¬ 64 < L) (hk : k ≤ 80000) :
    Calls Tryd.prog 25 #[v] w (TkP (⟨3, 0, s⟩, 1 + k, 0) w) := by
  obtain ⟨A, cap, rfl, hcap, hm, -⟩ := id hv
  have hW := hv.keepAll ((Same.refl _ _).alloc (.cells #[.int .i64 0, .int .i64 0, .string ⟨#[]⟩] 24))
  obtain ⟨ad, rfl, hcell⟩ := (By.cells hv).2 0 (by simp)
  have hcell : w.cell? ad = some (V8 c) := by rw [add0] at hcell; exact hcell
  have HLT : ad.block < w.heap.size := World.block_lt_of_cell? w ad hcell
  have hcb := n8_bd c
  unfold maxLen at hm
  simp only [List.length_cons] at hcap ⊢
  have g0 : n8 c = 3 := n8_is hc
  by_cases hck : cap = 1
  · subst hck
    have hr0 : r = [] := by cases r with | nil => rfl | cons a b => simp at hcap
    subst hr0
    have hcut : By (w.alloc (.cells #[.int .i64 0, .int .i64 0, .string ⟨#[]⟩] 24)) S (.slice (some ad) 0 0) [] := By.none_ _ _ _ _ (by simp [maxLen])
    have htx := taketext_any _ _ _ _ hcut (by first | omega | simp)
    unfold TxP at htx
    rw [hR] at htx
    dsimp only at htx
    have HROW := Lib.hid (val_new w va0)
    clear hc hv hW hcut hR
    go_enter Tryd.func25, Tryd.ntmps25
    go_wp2_with (go_at_call 54; refine stopAt ?_)
    unfold Hid
    refine htx.mono ?_
    rintro e' w2 ⟨uu, rfl, huo, hs2⟩
    obtain ⟨A2, c2', rfl, hc2a, hc2b⟩ := huo.formN hLs
    have hrow : Row w2 w.heap.size 24 (valCs va0) := HROW.out.keep hs2 trivial
    have hsm : Same (fun _ => True) w w2 := ((Same.refl _ _).alloc _).trans hs2
    obtain ⟨c0, c1, c2, z0, z1, z2⟩ := val_cells hrow
    have hlb := hrow.lt
    have HS := Lib.hid hsm
    have HR2 := Lib.hid hrow
    have HU := Lib.hid huo.by_
    clear htx hs2 hrow hsm HROW huo
    go_wp2_with (with_reducible refine stopConv rfl ?_)
    unfold Hid
    refine wpList_conv rfl rfl rfl (conv_by (HU.out)) ?_
    go_wp2
    obtain ⟨r1, r2⟩ := val_set3 ⟨3, 0, s⟩ HR2.out HS.out
    refine bodyPost_ret (kplain_results (n := ((1 + k : Nat) : Int)) (e := 0) r1 rfl rfl rfl) rfl ?_
    exact ⟨rfl, r2⟩
  · have hcut := hW.cut 1 (r.length + 1) (cap - 1) (by omega) (by simp) (by omega) (by simp only [maxLen]; omega)
    rw [show r.length + 1 - 1 = r.length by omega, show ((c :: r).drop 1).take r.length = r by simp] at hcut
    have htx := taketext_any _ _ _ _ hcut (by first | omega | simp)
    unfold TxP at htx
    rw [hR] at htx
    dsimp only at htx
    have HROW := Lib.hid (val_new w va0)
    clear hc hv hW hcut hR
    go_enter Tryd.func25, Tryd.ntmps25
    go_wp2_with (go_at_call 54; refine stopAt ?_)
    unfold Hid
    refine htx.mono ?_
    rintro e' w2 ⟨uu, rfl, huo, hs2⟩
    obtain ⟨A2, c2', rfl, hc2a, hc2b⟩ := huo.formN hLs
    have hrow : Row w2 w.heap.size 24 (valCs va0) := HROW.out.keep hs2 trivial
    have hsm : Same (fun _ => True) w w2 := ((Same.refl _ _).alloc _).trans hs2
    obtain ⟨c0, c1, c2, z0, z1, z2⟩ := val_cells hrow
    have hlb := hrow.lt
    have HS := Lib.hid hsm
    have HR2 := Lib.hid hrow
    have HU := Lib.hid huo.by_
    clear htx hs2 hrow hsm HROW huo
    go_wp2_with (with_reducible refine stopConv rfl ?_)
    unfold Hid
    refine wpList_conv rfl rfl rfl (conv_by (HU.out)) ?_
    go_wp2
    obtain ⟨r1, r2⟩ := val_set3 ⟨3, 0, s⟩ HR2.out HS.out
    refine bodyPost_ret (kplain_results (n := ((1 + k : Nat) : Int)) (e := 0) r1 rfl rfl rfl) rfl ?_
    exact ⟨rfl, r2⟩
set_option maxRecDepth 100000 in
set_option maxHeartbeats 1000000 in
theorem take_4 (v : Value) (c : UInt8) (r : List UInt8) (S : Nat → Prop) (w : World) (hv : By w S v (c :: r)) (hl : r.length ≤ 80000) (h0 : c ≠ 0) (h1 : c ≠ 1) (h2 : c ≠ 2) (h3 : c ≠ 3) :
    Calls Tryd.prog 25 #[v] w (TkP (va0, 0, 9) w) := by
  obtain ⟨A, cap, rfl, hcap, hm, -⟩ := id hv
  have hW := hv.keepAll ((Same.refl _ _).alloc (.cells #[.int .i64 0, .int .i64 0, .string ⟨#[]⟩] 24))
  obtain ⟨ad, rfl, hcell⟩ := (By.cells hv).2 0 (by simp)
  have hcell : w.cell? ad = some (V8 c) := by rw [add0] at hcell; exact hcell
  have HLT : ad.block < w.heap.size := World.block_lt_of_cell? w ad hcell
  have hcb := n8_bd c
  unfold maxLen at hm
  simp only [List.length_cons] at hcap ⊢
  have g0 : ¬ n8 c = 0 := n8_no h0
  have g1 : ¬ n8 c = 1 := n8_no h1
  have g2 : ¬ n8 c = 2 := n8_no h2
  have g3 : ¬ n8 c = 3 := n8_no h3
  clear h0 h1 h2 h3 hv hW
  go_enter Tryd.func25, Tryd.ntmps25
  go_wp2
  exact bodyPost_ret (kplain_results (v := va0) (n := 0) (e := 9) (val_new w va0) rfl rfl rfl) rfl ⟨rfl, (Same.refl _ _).alloc _⟩
theorem take_any (v : Value) (b : List UInt8) (S : Nat → Prop) (w : World) (hv : By w S v b) (hl : b.length ≤ 80000) :
    Calls Tryd.prog 25 #[v] w (TkP (takeF b) w) := by
  cases b with
  | nil => exact take_nil v S w hv
  | cons c r =>
    have hl : r.length ≤ 80000 := by simp at hl; omega
    rw [takeF]
    by_cases h0 : c = 0
    · rw [if_pos h0]; exact take_0 v c r S w hv hl h0
    rw [if_neg h0]
    by_cases h1 : c = 1
    · rw [if_pos h1]; exact take_1 v c r S w hv hl h1
    rw [if_neg h1]
    by_cases h2 : c = 2
    · rw [if_pos h2]
      obtain ⟨⟨u, k, e⟩, hR⟩ : ∃ R, takeVarF r 0 0 = R := ⟨_, rfl⟩
      rw [hR]
      dsimp only
      by_cases he : e = 0
      · subst he; rw [if_neg (by simp)]; exact take_2o v c r S w hv hl h2 u k hR
      · rw [if_pos he]; exact take_2e v c r S w hv hl h2 u k e hR he
    rw [if_neg h2]
    by_cases h3 : c = 3
    · rw [if_pos h3]
      have hlen := takeTxF_len r
      obtain ⟨⟨s, k, e⟩, hR⟩ : ∃ R, takeTxF r = R := ⟨_, rfl⟩
      rw [hR] at hlen ⊢
      dsimp only at hlen ⊢
      by_cases he : e = 0
      · subst he; rw [if_neg (by simp)]
        by_cases hs : 64 < s.length
        · rw [if_pos hs]; exact take_3l v c r S w hv hl h3 s k hR _ rfl (by omega) hs
        · rw [if_neg hs]; exact take_3o v c r S w hv hl h3 s k hR _ rfl (by omega) hs (by omega)
      · rw [if_pos he]; exact take_3e v c r S w hv hl h3 s k e hR he _ rfl (by omega)
    · rw [if_neg h3]; exact take_4 v c r S w hv hl h0 h1 h2 h3
set_option maxRecDepth 100000 in
set_option maxHeartbeats 1000000 in
theorem reftake_nil (v : Value) (S : Nat → Prop) (w : World) (hv : By w S v []) : Calls Tryd.prog 26 #[v] w (TkP (takeF []) w) := by
  obtain ⟨A, cap, rfl, hcap, hm, -⟩ := id hv
  clear hv
  go_enter Tryd.func26, Tryd.ntmps26
  go_wp2
  exact bodyPost_ret (rplain_results (v := va0) (n := 0) (e := 2) (val_new w va0) rfl rfl rfl) rfl ⟨rfl, (Same.refl _ _).alloc _⟩
set_option maxRecDepth 100000 in
set_option maxHeartbeats 1000000 in
theorem reftake_0 (v : Value) (c : UInt8) (r : List UInt8) (S : Nat → Prop) (w : World) (hv : By w S v (c :: r)) (hl : r.length ≤ 80000) (hc : c = 0) :
    Calls Tryd.prog 26 #[v] w (TkP (takeKeyF (c :: r)) w) := by
  obtain ⟨A, cap, rfl, hcap, hm, -⟩ := id hv
  have hW := hv.keepAll ((Same.refl _ _).alloc (.cells #[.int .i64 0, .int .i64 0, .string ⟨#[]⟩] 24))
  obtain ⟨ad, rfl, hcell⟩ := (By.cells hv).2 0 (by simp)
  have hcell : w.cell? ad = some (V8 c) := by rw [add0] at hcell; exact hcell
  have HLT : ad.block < w.heap.size := World.block_lt_of_cell? w ad hcell
  have hcb := n8_bd c
  unfold maxLen at hm
  simp only [List.length_cons] at hcap ⊢
  have g0 : n8 c = 0 := n8_is hc
  clear hc
  have hcl := reftakekey_any _ (c :: r) _ _ hW (by simp; omega)
  obtain ⟨R, hR⟩ : ∃ R, R = takeKeyF (c :: r) := ⟨_, rfl⟩
  rw [← hR] at hcl ⊢
  simp only [List.length_cons] at hcl
  have HROW := Lib.hid (val_new w va0)
  clear hR hv hW
  go_enter Tryd.func26, Tryd.ntmps26
  go_wp2_with (go_at_call 24; refine stopAt ?_)
  unfold Hid
  refine hcl.mono ?_
  rintro e w2 ⟨rfl, hs2⟩
  have hrow : Row w2 w.heap.size 24 (valCs va0) := HROW.out.keep hs2 trivial
  have hsm : Same (fun _ => True) w w2 := ((Same.refl _ _).alloc _).trans hs2
  obtain ⟨c0, c1, c2, z0, z1, z2⟩ := val_cells hrow
  have hlb := hrow.lt
  have HS := Lib.hid hsm
  have HR2 := Lib.hid hrow
  clear hcl hs2 hrow hsm HROW
  go_wp2
  obtain ⟨r1, r2⟩ := val_set3 R.1 HR2.out HS.out
  refine bodyPost_ret (rplain_results (n := R.2.1) (e := R.2.2) r1 rfl rfl rfl) rfl ?_
  exact ⟨rfl, r2⟩
set_option maxRecDepth 100000 in
set_option maxHeartbeats 1000000 in
theorem reftake_1 (v : Value) (c : UInt8) (r : List UInt8) (S : Nat → Prop) (w : World) (hv : By w S v (c :: r)) (hl : r.length ≤ 80000) (hc : c = 1) :
    Calls Tryd.prog 26 #[v] w (TkP (takeKeyF (c :: r)) w) := by
  obtain ⟨A, cap, rfl, hcap, hm, -⟩ := id hv
  have hW := hv.keepAll ((Same.refl _ _).alloc (.cells #[.int .i64 0, .int .i64 0, .string ⟨#[]⟩] 24))
  obtain ⟨ad, rfl, hcell⟩ := (By.cells hv).2 0 (by simp)
  have hcell : w.cell? ad = some (V8 c) := by rw [add0] at hcell; exact hcell
  have HLT : ad.block < w.heap.size := World.block_lt_of_cell? w ad hcell
  have hcb := n8_bd c
  unfold maxLen at hm
  simp only [List.length_cons] at hcap ⊢
  have g0 : n8 c = 1 := n8_is hc
  clear hc
  have hcl := reftakekey_any _ (c :: r) _ _ hW (by simp; omega)
  obtain ⟨R, hR⟩ : ∃ R, R = takeKeyF (c :: r) := ⟨_, rfl⟩
  rw [← hR] at hcl ⊢
  simp only [List.length_cons] at hcl
  have HROW := Lib.hid (val_new w va0)
  clear hR hv hW
  go_enter Tryd.func26, Tryd.ntmps26
  go_wp2_with (go_at_call 24; refine stopAt ?_)
  unfold Hid
  refine hcl.mono ?_
  rintro e w2 ⟨rfl, hs2⟩
  have hrow : Row w2 w.heap.size 24 (valCs va0) := HROW.out.keep hs2 trivial
  have hsm : Same (fun _ => True) w w2 := ((Same.refl _ _).alloc _).trans hs2
  obtain ⟨c0, c1, c2, z0, z1, z2⟩ := val_cells hrow
  have hlb := hrow.lt
  have HS := Lib.hid hsm
  have HR2 := Lib.hid hrow
  clear hcl hs2 hrow hsm HROW
  go_wp2
  obtain ⟨r1, r2⟩ := val_set3 R.1 HR2.out HS.out
  refine bodyPost_ret (rplain_results (n := R.2.1) (e := R.2.2) r1 rfl rfl rfl) rfl ?_
  exact ⟨rfl, r2⟩
set_option maxRecDepth 100000 in
set_option maxHeartbeats 1000000 in
theorem reftake_2e (v : Value) (c : UInt8) (r : List UInt8) (S : Nat → Prop) (w : World) (hv : By w S v (c :: r)) (hl : r.length ≤ 80000) (hc : c = 2) (u k : Nat) (e : Int) (hR : takeVarF r 0 0 = (u, k, e)) (he : e ≠ 0) :
    Calls Tryd.prog 26 #[v] w (TkP (va0, 0, e) w) := by
  obtain ⟨A, cap, rfl, hcap, hm, -⟩ := id hv
  have hW := hv.keepAll ((Same.refl _ _).alloc (.cells #[.int .i64 0, .int .i64 0, .string ⟨#[]⟩] 24))
  obtain ⟨ad, rfl, hcell⟩ := (By.cells hv).2 0 (by simp)
  have hcell : w.cell? ad = some (V8 c) := by rw [add0] at hcell; exact hcell
  have HLT : ad.block < w.heap.size := World.block_lt_of_cell? w ad hcell
  have hcb := n8_bd c
  unfold maxLen at hm
  simp only [List.length_cons] at hcap ⊢
  have g0 : n8 c = 2 := n8_is hc
  by_cases hck : cap = 1
  · subst hck
    have hr0 : r = [] := by cases r with | nil => rfl | cons a b => simp at hcap
    subst hr0
    have hcut : By (w.alloc (.cells #[.int .i64 0, .int .i64 0, .string ⟨#[]⟩] 24)) S (.slice (some ad) 0 0) [] := By.none_ _ _ _ _ (by simp [maxLen])
    have hvar := reftakevar_any _ _ _ _ hcut (by first | omega | simp)
    unfold VarP at hvar
    rw [hR] at hvar
    simp only at hvar
    clear hc hv hW hcut hR
    go_enter Tryd.func26, Tryd.ntmps26
    go_wp2_with (go_at_call 55; refine hvar.mono ?_; rintro e w' ⟨rfl, rfl⟩)
    exact bodyPost_ret (rplain_results (v := va0) (n := 0) (e := e) (val_new w va0) rfl rfl rfl) rfl ⟨rfl, (Same.refl _ _).alloc _⟩
  · have hcut := hW.cut 1 (r.length + 1) (cap - 1) (by omega) (by simp) (by omega) (by simp only [maxLen]; omega)
    rw [show r.length + 1 - 1 = r.length by omega, show ((c :: r).drop 1).take r.length = r by simp] at hcut
    have hvar := reftakevar_any _ _ _ _ hcut (by first | omega | simp)
    unfold VarP at hvar
    rw [hR] at hvar
    simp only at hvar
    clear hc hv hW hcut hR
    go_enter Tryd.func26, Tryd.ntmps26
    go_wp2_with (go_at_call 55; refine hvar.mono ?_; rintro e w' ⟨rfl, rfl⟩)
    exact bodyPost_ret (rplain_results (v := va0) (n := 0) (e := e) (val_new w va0) rfl rfl rfl) rfl ⟨rfl, (Same.refl _ _).alloc _⟩
set_option maxRecDepth 100000 in
set_option maxHeartbeats 1000000 in
theorem reftake_2o (v : Value) (c : UInt8) (r : List UInt8) (S : Nat → Prop) (w : World) (hv : By w S v (c :: r)) (hl : r.length ≤ 80000) (hc : c = 2) (u k : Nat) (hR : takeVarF r 0 0 = (u, k, 0)) :
    Calls Tryd.prog 26 #[v] w (TkP (⟨2, zagN u, []⟩, k + 1, 0) w) := by
  obtain ⟨A, cap, rfl, hcap, hm, -⟩ := id hv
  have hW := hv.keepAll ((Same.refl _ _).alloc (.cells #[.int .i64 0, .int .i64 0, .string ⟨#[]⟩] 24))
  obtain ⟨ad, rfl, hcell⟩ := (By.cells hv).2 0 (by simp)
  have hcell : w.cell? ad = some (V8 c) := by rw [add0] at hcell; exact hcell
  have HLT : ad.block < w.heap.size := World.block_lt_of_cell? w ad hcell
  have hcb := n8_bd c
  unfold maxLen at hm
  simp only [List.length_cons] at hcap ⊢
  have g0 : n8 c = 2 := n8_is hc
  have hkb := (takeVarF_ok r 0 0 u k hR).2
  have hu := takeVarF_lt r
  rw [hR] at hu
  dsimp only at hu
  have hzag := fun W => refzag_any u hu W
  obtain ⟨n, hn⟩ : ∃ n, n = zagN u := ⟨_, rfl⟩
  rw [← hn] at hzag ⊢
  by_cases hck : cap = 1
  · subst hck
    have hr0 : r = [] := by cases r with | nil => rfl | cons a b => simp at hcap
    subst hr0
    have hcut : By (w.alloc (.cells #[.int .i64 0, .int .i64 0, .string ⟨#[]⟩] 24)) S (.slice (some ad) 0 0) [] := By.none_ _ _ _ _ (by simp [maxLen])
    have hvar := reftakevar_any _ _ _ _ hcut (by first | omega | simp)
    unfold VarP at hvar
    rw [hR] at hvar
    simp only at hvar
    clear hc hv hW hcut hR hn
    go_enter Tryd.func26, Tryd.ntmps26
    go_wp2_with (first | (go_at_call 55; refine hvar.mono ?_; rintro e w' ⟨rfl, rfl⟩) | (go_at_call 56; refine (hzag _).mono ?_; rintro e w' ⟨rfl, rfl⟩))
    exact bodyPost_ret (rplain_results (v := ⟨2, n, []⟩) (n := ((k + 1 : Nat) : Int)) (e := 0) (val_new w ⟨2, n, []⟩) rfl rfl rfl) rfl ⟨rfl, (Same.refl _ _).alloc _⟩
  · have hcut := hW.cut 1 (r.length + 1) (cap - 1) (by omega) (by simp) (by omega) (by simp only [maxLen]; omega)
    rw [show r.length + 1 - 1 = r.length by omega, show ((c :: r).drop 1).take r.length = r by simp] at hcut
    have hvar := reftakevar_any _ _ _ _ hcut (by first | omega | simp)
    unfold VarP at hvar
    rw [hR] at hvar
    simp only at hvar
    clear hc hv hW hcut hR hn
    go_enter Tryd.func26, Tryd.ntmps26
    go_wp2_with (first | (go_at_call 55; refine hvar.mono ?_; rintro e w' ⟨rfl, rfl⟩) | (go_at_call 56; refine (hzag _).mono ?_; rintro e w' ⟨rfl, rfl⟩))
    exact bodyPost_ret (rplain_results (v := ⟨2, n, []⟩) (n := ((k + 1 : Nat) : Int)) (e := 0) (val_new w ⟨2, n, []⟩) rfl rfl rfl) rfl ⟨rfl, (Same.refl _ _).alloc _⟩
set_option maxRecDepth 100000 in
set_option maxHeartbeats 1000000 in
theorem reftake_3e (v : Value) (c : UInt8) (r : List UInt8) (S : Nat → Prop) (w : World) (hv : By w S v (c :: r)) (hl : r.length ≤ 80000) (hc : c = 3) (s : List UInt8) (k : Nat) (e : Int) (hR : takeTxF r = (s, k, e)) (he : e ≠ 0) (L : Nat) (hLs : s.length = L) (hL : L ≤ 80000) :
    Calls Tryd.prog 26 #[v] w (TkP (va0, 0, e) w) := by
  obtain ⟨A, cap, rfl, hcap, hm, -⟩ := id hv
  have hW := hv.keepAll ((Same.refl _ _).alloc (.cells #[.int .i64 0, .int .i64 0, .string ⟨#[]⟩] 24))
  obtain ⟨ad, rfl, hcell⟩ := (By.cells hv).2 0 (by simp)
  have hcell : w.cell? ad = some (V8 c) := by rw [add0] at hcell; exact hcell
  have HLT : ad.block < w.heap.size := World.block_lt_of_cell? w ad hcell
  have hcb := n8_bd c
  unfold maxLen at hm
  simp only [List.length_cons] at hcap ⊢
  have g0 : n8 c = 3 := n8_is hc
  by_cases hck : cap = 1
  · subst hck
    have hr0 : r = [] := by cases r with | nil => rfl | cons a b => simp at hcap
    subst hr0
    have hcut : By (w.alloc (.cells #[.int .i64 0, .int .i64 0, .string ⟨#[]⟩] 24)) S (.slice (some ad) 0 0) [] := By.none_ _ _ _ _ (by simp [maxLen])
    have htx := reftaketext_any _ _ _ _ hcut (by first | omega | simp)
    unfold TxP at htx
    rw [hR] at htx
    dsimp only at htx
    have HROW := Lib.hid (val_new w va0)
    clear hc hv hW hcut hR
    go_enter Tryd.func26, Tryd.ntmps26
    go_wp2_with (go_at_call 57; refine stopAt ?_)
    unfold Hid
    refine htx.mono ?_
    rintro e' w2 ⟨uu, rfl, huo, hs2⟩
    obtain ⟨A2, c2', rfl, hc2a, hc2b⟩ := huo.formN hLs
    have hrow : Row w2 w.heap.size 24 (valCs va0) := HROW.out.keep hs2 trivial
    have hsm : Same (fun _ => True) w w2 := ((Same.refl _ _).alloc _).trans hs2
    obtain ⟨c0, c1, c2, z0, z1, z2⟩ := val_cells hrow
    have hlb := hrow.lt
    have HS := Lib.hid hsm
    have HR2 := Lib.hid hrow
    have HU := Lib.hid huo.by_
    clear htx hs2 hrow hsm HROW huo
    go_wp2
    obtain ⟨r1, r2⟩ := val_set3 va0 HR2.out HS.out
    refine bodyPost_ret (rplain_results (n := 0) (e := e) r1 rfl rfl rfl) rfl ?_
    exact ⟨rfl, r2⟩
  · have hcut := hW.cut 1 (r.length + 1) (cap - 1) (by omega) (by simp) (by omega) (by simp only [maxLen]; omega)
    rw [show r.length + 1 - 1 = r.length by omega, show ((c :: r).drop 1).take r.length = r by simp] at hcut
    have htx := reftaketext_any _ _ _ _ hcut (by first | omega | simp)
    unfold TxP at htx
    rw [hR] at htx
    dsimp only at htx
    have HROW := Lib.hid (val_new w va0)
    clear hc hv hW hcut hR
    go_enter Tryd.func26, Tryd.ntmps26
    go_wp2_with (go_at_call 57; refine stopAt ?_)
    unfold Hid
    refine htx.mono ?_
    rintro e' w2 ⟨uu, rfl, huo, hs2⟩
    obtain ⟨A2, c2', rfl, hc2a, hc2b⟩ := huo.formN hLs
    have hrow : Row w2 w.heap.size 24 (valCs va0) := HROW.out.keep hs2 trivial
    have hsm : Same (fun _ => True) w w2 := ((Same.refl _ _).alloc _).trans hs2
    obtain ⟨c0, c1, c2, z0, z1, z2⟩ := val_cells hrow
    have hlb := hrow.lt
    have HS := Lib.hid hsm
    have HR2 := Lib.hid hrow
    have HU := Lib.hid huo.by_
    clear htx hs2 hrow hsm HROW huo
    go_wp2
    obtain ⟨r1, r2⟩ := val_set3 va0 HR2.out HS.out
    refine bodyPost_ret (rplain_results (n := 0) (e := e) r1 rfl rfl rfl) rfl ?_
    exact ⟨rfl, r2⟩
set_option maxRecDepth 100000 in
set_option maxHeartbeats 1000000 in
theorem reftake_3l (v : Value) (c : UInt8) (r : List UInt8) (S : Nat → Prop) (w : World) (hv : By w S v (c :: r)) (hl : r.length ≤ 80000) (hc : c = 3) (s : List UInt8) (k : Nat) (hR : takeTxF r = (s, k, 0)) (L : Nat) (hLs : s.length = L) (hL : L ≤ 80000) (hlong : 64 < L) :
    Calls Tryd.prog 26 #[v] w (TkP (va0, 0, 3) w) := by
  obtain ⟨A, cap, rfl, hcap, hm, -⟩ := id hv
  have hW := hv.keepAll ((Same.refl _ _).alloc (.cells #[.int .i64 0, .int .i64 0, .string ⟨#[]⟩] 24))
  obtain ⟨ad, rfl, hcell⟩ := (By.cells hv).2 0 (by simp)
  have hcell : w.cell? ad = some (V8 c) := by rw [add0] at hcell; exact hcell
  have HLT : ad.block < w.heap.size := World.block_lt_of_cell? w ad hcell
  have hcb := n8_bd c
  unfold maxLen at hm
  simp only [List.length_cons] at hcap ⊢
  have g0 : n8 c = 3 := n8_is hc
  by_cases hck : cap = 1
  · subst hck
    have hr0 : r = [] := by cases r with | nil => rfl | cons a b => simp at hcap
    subst hr0
    have hcut : By (w.alloc (.cells #[.int .i64 0, .int .i64 0, .string ⟨#[]⟩] 24)) S (.slice (some ad) 0 0) [] := By.none_ _ _ _ _ (by simp [maxLen])
    have htx := reftaketext_any _ _ _ _ hcut (by first | omega | simp)
    unfold TxP at htx
    rw [hR] at htx
    dsimp only at htx
    have HROW := Lib.hid (val_new w va0)
    clear hc hv hW hcut hR
    go_enter Tryd.func26, Tryd.ntmps26
    go_wp2_with (go_at_call 57; refine stopAt ?_)
    unfold Hid
    refine htx.mono ?_
    rintro e' w2 ⟨uu, rfl, huo, hs2⟩
    obtain ⟨A2, c2', rfl, hc2a, hc2b⟩ := huo.formN hLs
    have hrow : Row w2 w.heap.size 24 (valCs va0) := HROW.out.keep hs2 trivial
    have hsm : Same (fun _ => True) w w2 := ((Same.refl _ _).alloc _).trans hs2
    obtain ⟨c0, c1, c2, z0, z1, z2⟩ := val_cells hrow
    have hlb := hrow.lt
    have HS := Lib.hid hsm
    have HR2 := Lib.hid hrow
    have HU := Lib.hid huo.by_
    clear htx hs2 hrow hsm HROW huo
    go_wp2
    obtain ⟨r1, r2⟩ := val_set3 va0 HR2.out HS.out
    refine bodyPost_ret (rplain_results (n := 0) (e := 3) r1 rfl rfl rfl) rfl ?_
    exact ⟨rfl, r2⟩
  · have hcut := hW.cut 1 (r.length + 1) (cap - 1) (by omega) (by simp) (by omega) (by simp only [maxLen]; omega)
    rw [show r.length + 1 - 1 = r.length by omega, show ((c :: r).drop 1).take r.length = r by simp] at hcut
    have htx := reftaketext_any _ _ _ _ hcut (by first | omega | simp)
    unfold TxP at htx
    rw [hR] at htx
    dsimp only at htx
    have HROW := Lib.hid (val_new w va0)
    clear hc hv hW hcut hR
    go_enter Tryd.func26, Tryd.ntmps26
    go_wp2_with (go_at_call 57; refine stopAt ?_)
    unfold Hid
    refine htx.mono ?_
    rintro e' w2 ⟨uu, rfl, huo, hs2⟩
    obtain ⟨A2, c2', rfl, hc2a, hc2b⟩ := huo.formN hLs
    have hrow : Row w2 w.heap.size 24 (valCs va0) := HROW.out.keep hs2 trivial
    have hsm : Same (fun _ => True) w w2 := ((Same.refl _ _).alloc _).trans hs2
    obtain ⟨c0, c1, c2, z0, z1, z2⟩ := val_cells hrow
    have hlb := hrow.lt
    have HS := Lib.hid hsm
    have HR2 := Lib.hid hrow
    have HU := Lib.hid huo.by_
    clear htx hs2 hrow hsm HROW huo
    go_wp2
    obtain ⟨r1, r2⟩ := val_set3 va0 HR2.out HS.out
    refine bodyPost_ret (rplain_results (n := 0) (e := 3) r1 rfl rfl rfl) rfl ?_
    exact ⟨rfl, r2⟩
set_option maxRecDepth 100000 in
set_option maxHeartbeats 1000000 in
theorem reftake_3o (v : Value) (c : UInt8) (r : List UInt8) (S : Nat → Prop) (w : World) (hv : By w S v (c :: r)) (hl : r.length ≤ 80000) (hc : c = 3) (s : List UInt8) (k : Nat) (hR : takeTxF r = (s, k, 0)) (L : Nat) (hLs : s.length = L) (hL : L ≤ 80000) (hlong : ¬ 64 < L) (hk : k ≤ 80000) :
    Calls Tryd.prog 26 #[v] w (TkP (⟨3, 0, s⟩, k + 1, 0) w) := by
  obtain ⟨A, cap, rfl, hcap, hm, -⟩ := id hv
  have hW := hv.keepAll ((Same.refl _ _).alloc (.cells #[.int .i64 0, .int .i64 0, .string ⟨#[]⟩] 24))
  obtain ⟨ad, rfl, hcell⟩ := (By.cells hv).2 0 (by simp)
  have hcell : w.cell? ad = some (V8 c) := by rw [add0] at hcell; exact hcell
  have HLT : ad.block < w.heap.size := World.block_lt_of_cell? w ad hcell
  have hcb := n8_bd c
  unfold maxLen at hm
  simp only [List.length_cons] at hcap ⊢
  have g0 : n8 c = 3 := n8_is hc
  by_cases hck : cap = 1
  · subst hck
    have hr0 : r = [] := by cases r with | nil => rfl | cons a b => simp at hcap
    subst hr0
    have hcut : By (w.alloc (.cells #[.int .i64 0, .int .i64 0, .string ⟨#[]⟩] 24)) S (.slice (some ad) 0 0) [] := By.none_ _ _ _ _ (by simp [maxLen])
    have htx := reftaketext_any _ _ _ _ hcut (by first | omega | simp)
    unfold TxP at htx
    rw [hR] at htx
    dsimp only at htx
    have HROW := Lib.hid (val_new w va0)
    clear hc hv hW hcut hR
    go_enter Tryd.func26, Tryd.ntmps26
    go_wp2_with (go_at_call 57; refine stopAt ?_)
    unfold Hid
    refine htx.mono ?_
    rintro e' w2 ⟨uu, rfl, huo, hs2⟩
    obtain ⟨A2, c2', rfl, hc2a, hc2b⟩ := huo.formN hLs
    have hrow : Row w2 w.heap.size 24 (valCs va0) := HROW.out.keep hs2 trivial
    have hsm : Same (fun _ => True) w w2 := ((Same.refl _ _).alloc _).trans hs2
    obtain ⟨c0, c1, c2, z0, z1, z2⟩ := val_cells hrow
    have hlb := hrow.lt
    have HS := Lib.hid hsm
    have HR2 := Lib.hid hrow
    have HU := Lib.hid huo.by_
    clear htx hs2 hrow hsm HROW huo
    go_wp2_with (with_reducible refine stopConv rfl ?_)
    unfold Hid
    refine wpList_conv rfl rfl rfl (conv_by (HU.out)) ?_
    go_wp2
    obtain ⟨r1, r2⟩ := val_set3 ⟨3, 0, s⟩ HR2.out HS.out
    refine bodyPost_ret (rplain_results (n := ((k + 1 : Nat) : Int)) (e := 0) r1 rfl rfl rfl) rfl ?_
    exact ⟨rfl, r2⟩
  · have hcut := hW.cut 1 (r.length + 1) (cap - 1) (by omega) (by simp) (by omega) (by simp only [maxLen]; omega)
    rw [show r.length + 1 - 1 = r.length by omega, show ((c :: r).drop 1).take r.length = r by simp] at hcut
    have htx := reftaketext_any _ _ _ _ hcut (by first | omega | simp)
    unfold TxP at htx
    rw [hR] at htx
    dsimp only at htx
    have HROW := Lib.hid (val_new w va0)
    clear hc hv hW hcut hR
    go_enter Tryd.func26, Tryd.ntmps26
    go_wp2_with (go_at_call 57; refine stopAt ?_)
    unfold Hid
    refine htx.mono ?_
    rintro e' w2 ⟨uu, rfl, huo, hs2⟩
    obtain ⟨A2, c2', rfl, hc2a, hc2b⟩ := huo.formN hLs
    have hrow : Row w2 w.heap.size 24 (valCs va0) := HROW.out.keep hs2 trivial
    have hsm : Same (fun _ => True) w w2 := ((Same.refl _ _).alloc _).trans hs2
    obtain ⟨c0, c1, c2, z0, z1, z2⟩ := val_cells hrow
    have hlb := hrow.lt
    have HS := Lib.hid hsm
    have HR2 := Lib.hid hrow
    have HU := Lib.hid huo.by_
    clear htx hs2 hrow hsm HROW huo
    go_wp2_with (with_reducible refine stopConv rfl ?_)
    unfold Hid
    refine wpList_conv rfl rfl rfl (conv_by (HU.out)) ?_
    go_wp2
    obtain ⟨r1, r2⟩ := val_set3 ⟨3, 0, s⟩ HR2.out HS.out
    refine bodyPost_ret (rplain_results (n := ((k + 1 : Nat) : Int)) (e := 0) r1 rfl rfl rfl) rfl ?_
    exact ⟨rfl, r2⟩
set_option maxRecDepth 100000 in
set_option maxHeartbeats 1000000 in
theorem reftake_4 (v : Value) (c : UInt8) (r : List UInt8) (S : Nat → Prop) (w : World) (hv : By w S v (c :: r)) (hl : r.length ≤ 80000) (h0 : c ≠ 0) (h1 : c ≠ 1) (h2 : c ≠ 2) (h3 : c ≠ 3) :
    Calls Tryd.prog 26 #[v] w (TkP (va0, 0, 9) w) := by
  obtain ⟨A, cap, rfl, hcap, hm, -⟩ := id hv
  have hW := hv.keepAll ((Same.refl _ _).alloc (.cells #[.int .i64 0, .int .i64 0, .string ⟨#[]⟩] 24))
  obtain ⟨ad, rfl, hcell⟩ := (By.cells hv).2 0 (by simp)
  have hcell : w.cell? ad = some (V8 c) := by rw [add0] at hcell; exact hcell
  have HLT : ad.block < w.heap.size := World.block_lt_of_cell? w ad hcell
  have hcb := n8_bd c
  unfold maxLen at hm
  simp only [List.length_cons] at hcap ⊢
  have g0 : ¬ n8 c = 0 := n8_no h0
  have g1 : ¬ n8 c = 1 := n8_no h1
  have g2 : ¬ n8 c = 2 := n8_no h2
  have g3 : ¬ n8 c = 3 := n8_no h3
  clear h0 h1 h2 h3 hv hW
  go_enter Tryd.func26, Tryd.ntmps26
  go_wp2
  exact bodyPost_ret (rplain_results (v := va0) (n := 0) (e := 9) (val_new w va0) rfl rfl rfl) rfl ⟨rfl, (Same.refl _ _).alloc _⟩
theorem reftake_any (v : Value) (b : List UInt8) (S : Nat → Prop) (w : World) (hv : By w S v b) (hl : b.length ≤ 80000) :
    Calls Tryd.prog 26 #[v] w (TkP (takeF b) w) := by
  cases b with
  | nil => exact reftake_nil v S w hv
  | cons c r =>
    have hl : r.length ≤ 80000 := by simp at hl; omega
    rw [takeF]
    by_cases h0 : c = 0
    · rw [if_pos h0]; have := reftake_0 v c r S w hv hl h0; rw [takeKeyF, if_pos h0] at this; exact this
    rw [if_neg h0]
    by_cases h1 : c = 1
    · rw [if_pos h1]; have := reftake_1 v c r S w hv hl h1; rw [takeKeyF, if_neg h0, if_pos h1] at this; exact this
    rw [if_neg h1]
    by_cases h2 : c = 2
    · rw [if_pos h2]
      obtain ⟨⟨u, k, e⟩, hR⟩ : ∃ R, takeVarF r 0 0 = R := ⟨_, rfl⟩
      rw [hR]
      dsimp only
      by_cases he : e = 0
      · subst he; rw [if_neg (by simp)]; rw [Nat.add_comm]; exact reftake_2o v c r S w hv hl h2 u k hR
      · rw [if_pos he]; exact reftake_2e v c r S w hv hl h2 u k e hR he
    rw [if_neg h2]
    by_cases h3 : c = 3
    · rw [if_pos h3]
      have hlen := takeTxF_len r
      obtain ⟨⟨s, k, e⟩, hR⟩ : ∃ R, takeTxF r = R := ⟨_, rfl⟩
      rw [hR] at hlen ⊢
      dsimp only at hlen ⊢
      by_cases he : e = 0
      · subst he; rw [if_neg (by simp)]
        by_cases hs : 64 < s.length
        · rw [if_pos hs]; exact reftake_3l v c r S w hv hl h3 s k hR _ rfl (by omega) hs
        · rw [if_neg hs]; rw [Nat.add_comm]; exact reftake_3o v c r S w hv hl h3 s k hR _ rfl (by omega) hs (by omega)
      · rw [if_pos he]; exact reftake_3e v c r S w hv hl h3 s k e hR he _ rfl (by omega)
    · rw [if_neg h3]; exact reftake_4 v c r S w hv hl h0 h1 h2 h3
end Go.Proofs.YtpbekhcogpkbpaaDoor
