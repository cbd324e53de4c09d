/-
  The walk of ValueBack.
-/
import Derived.Test.YtpbekhcogpkbpaaDoorVaO
import Derived.Test.YtpbekhcogpkbpaaDoorReg6
import Derived.Deep.CutRange
set_option linter.unusedSimpArgs false
set_option linter.unusedVariables false
namespace Go.Proofs.YtpbekhcogpkbpaaDoor
open Go.RowKit

theorem varL_len : ∀ (k n : Nat), n < 128 ^ (k + 1) → (varL n).length ≤ k + 1 := by
  intro k
  induction k with
  | zero =>
    intro n h
    unfold varL
    rw [dif_pos (by simpa using h)]
    simp
  | succ k ih =>
    intro n h
    unfold varL
    split
    · simp
    · rw [List.length_cons]
      have := ih (n / 128) (by rw [Nat.pow_succ] at h; omega)
      omega
theorem keyL_len {v : Val} (h : v.May) : (keyL v).length ≤ 200 := by
  unfold keyL
  rw [if_pos h]
  obtain ⟨k, n, s⟩ := v
  unfold keyB
  rcases h with ⟨h1, h2, h3⟩ | ⟨h1, h2, h3⟩ | ⟨h1, h3⟩ | ⟨h1, h2, h3⟩ <;> dsimp only at h1 h3 <;> subst h1
  · simp
  · simp
  · simp [putN_len]
  · have := escL_len s
    dsimp only
    simp
    omega
theorem plainL_len {v : Val} (h : v.May) (hn : I64 v.n) : (plainL v).length ≤ 200 := by
  unfold plainL
  rw [if_pos h]
  obtain ⟨k, n, s⟩ := v
  unfold plnB textL
  rcases h with ⟨h1, h2, h3⟩ | ⟨h1, h2, h3⟩ | ⟨h1, h3⟩ | ⟨h1, h2, h3⟩ <;> dsimp only at h1 h3 hn <;> subst h1
  · simp
  · simp
  · have := varL_len 10 (zigN n) (by have := zig_lt hn; omega)
    dsimp only
    simp
    omega
  · have := varL_len 1 s.length (by omega)
    dsimp only
    simp
    omega
def SP.own (B : Nat) (L : List UInt8) : SP := ⟨fun v w => OwnB w B v L, fun _ _ _ h k => h.keepAll k⟩
set_option maxRecDepth 100000 in
set_option maxHeartbeats 2000000 in
theorem back_no (v : Val) (r : Value) (b : List UInt8) (S : Nat → Prop) (w : World) (hr : By w S r b) (hE : EnvT w) (hm : mayV v = false) :
    Calls Tryd.prog 7 #[valV v, r] w (BoolP true w) := by
  obtain ⟨A, cap, rfl, hc1, hc2, -⟩ := id hr
  have hbg := begun_any (w.alloc (.cells #[.int .i64 v.kind, .int .i64 v.n, .string (str v.s)] 24)) (hE.keepAll ((Same.refl _ _).alloc _))
  have hma := fun W => exMay_any v W
  rw [hm] at hma
  unfold BoolP at hbg hma ⊢
  clear hm hE hr
  go_enter Tryd.func7, Tryd.ntmps7
  go_wp2_with (go_at_call 8; refine stopAt ?_)
  unfold Hid
  refine hbg.mono ?_
  rintro e w1 ⟨rfl, hs1⟩
  have hrow := (val_new w v).keep hs1 trivial
  obtain ⟨c0, c1, c2, -, -, -⟩ := val_cells hrow
  have hlb := hrow.lt
  have HS1 := Lib.hid (((Same.refl (fun _ => True) w).alloc (.cells #[.int .i64 v.kind, .int .i64 v.n, .string (str v.s)] 24)).trans hs1)
  clear hbg hs1 hrow
  go_wp2_with (go_at_call 16; refine stopAt ?_)
  unfold Hid
  refine (hma _).mono ?_
  rintro e w2 ⟨rfl, hs2⟩
  have HS2 := Lib.hid (HS1.out.trans hs2)
  clear hs2 hma
  go_wp2
  go_ret
  exact ⟨rfl, HS2.out⟩
set_option maxRecDepth 100000 in
set_option maxHeartbeats 4000000 in
theorem back_yes (v : Val) (r : Value) (b : List UInt8) (S : Nat → Prop) (w : World) (hr : By w S r b) (hE : EnvT w) (hm : v.May) (hn : I64 v.n) :
    Calls Tryd.prog 7 #[valV v, r] w (BoolP true w) := by
  obtain ⟨A, cap, rfl, hc1, hc2, -⟩ := id hr
  obtain ⟨N, hN⟩ : ∃ N, N = b.length := ⟨_, rfl⟩
  have hrl := hr.mono (S' := fun k => k < w.heap.size) fun k h _ => h
  rw [← hN] at hc1 hrl ⊢
  have HV : Hid (By w (fun k => k < w.heap.size) (.slice A N cap) b) := Lib.hid hrl
  have HN := Lib.hid hN
  have hbg := begun_any (w.alloc (.cells #[.int .i64 v.kind, .int .i64 v.n, .string (str v.s)] 24)) (hE.keepAll ((Same.refl _ _).alloc _))
  have hma := fun W => exMay_any v W
  rw [(mayV_iff v).2 hm] at hma
  unfold BoolP at hbg hma ⊢
  have hke := fun W => key_any v (.slice none 0 0) [] (fun _ => True) W (By.none_ _ _ _ _ (by simp [maxLen])) (by simp) hn
  have hpl := fun W => plain_any v (.slice none 0 0) [] (fun _ => True) W (By.none_ _ _ _ _ (by simp [maxLen])) (by simp) hn
  have hkr := keyL_read hm hn b
  have hpr := plainL_read hm hn b
  have hkl := keyL_len hm
  have hpll := plainL_len hm hn
  simp only [List.nil_append] at hke hpl
  unfold OwnPost at hke hpl
  obtain ⟨KK, hK⟩ : ∃ K, K = keyL v := ⟨_, rfl⟩
  obtain ⟨KN, hKN⟩ : ∃ n, n = KK.length := ⟨_, rfl⟩
  obtain ⟨PP, hP⟩ : ∃ P, P = plainL v := ⟨_, rfl⟩
  obtain ⟨PN, hPN⟩ : ∃ n, n = PP.length := ⟨_, rfl⟩
  rw [← hK] at hke hkr hkl
  rw [← hP] at hpl hpr hpll
  rw [← hKN] at hkr hkl
  rw [← hPN] at hpr hpll
  have HKN := Lib.hid hKN
  have HPN := Lib.hid hPN
  have HKL := Lib.hid hkl
  have HPL := Lib.hid hpll
  have HKR := Lib.hid hkr
  have HPR := Lib.hid hpr
  clear hm hE hr hrl hN hK hP hkr hpr hkl hpll hKN hPN
  go_enter Tryd.func7, Tryd.ntmps7
  go_wp2_with (go_at_call 8; refine stopAt ?_)
  unfold Hid
  refine hbg.mono ?_
  rintro e w1 ⟨rfl, hs1⟩
  have hrow := (val_new w v).keep hs1 trivial
  obtain ⟨c0, c1, c2, -, -, -⟩ := val_cells hrow
  have hlb := hrow.lt
  have HR := Lib.hid hrow
  have HS1 := Lib.hid (((Same.refl (fun _ => True) w).alloc (.cells #[.int .i64 v.kind, .int .i64 v.n, .string (str v.s)] 24)).trans hs1)
  clear hbg hs1 hrow
  go_wp2_with (go_at_call 16; refine stopAt ?_)
  unfold Hid
  refine (hma _).mono ?_
  rintro e w2 ⟨rfl, hs2⟩
  have hrow : Row w2 w.heap.size 24 (valCs v) := HR.out.keep hs2 trivial
  have HS2 := Lib.hid (HS1.out.trans hs2)
  clear c0 c1 c2 hlb HR
  obtain ⟨c0, c1, c2, -, -, -⟩ := val_cells hrow
  have hlb := hrow.lt
  have HR := Lib.hid hrow
  clear hs2 hma hrow
  by_cases hl : 1024 < N
  · go_wp2
    go_ret
    exact ⟨rfl, HS2.out⟩
  · go_upto_region 5 with (fail)
    refine wp_region_tail_lit (L := [.eq (.agg #[.int .i64 v.kind, .int .i64 v.n, .string (str v.s)]), .of (SP.own w2.heap.size KK), .eq (.agg #[.int .i64 v.kind, .int .i64 v.n, .string (str v.s)]), ⟨some 1, (fun y x W => OwnB W w2.heap.size y PP ∧ ∀ k, x.ownBlock = some k → y.ownBlock ≠ some k), fun _ _ _ _ h k => ⟨h.1.keepAll k, h.2⟩⟩]) 4 (by kernel_rfl) (by kernel_rfl) rfl rfl rfl ?_ ?_
    · refine ⟨?_, ?_, ?_, ?_, trivial⟩
      · intro ac wc hs hd hz hf hw K hK
        have e0 : ac.eval (.tmp 2) = (.pointer (some ⟨w.heap.size, 0, none⟩)) := hf 2 rfl
        have m0 : wc.cell? ⟨w.heap.size, 0, none⟩ = some (.int .i64 v.kind) := hs.cell (p := ⟨w.heap.size, 0, none⟩) trivial c0
        have m1 : wc.cell? ⟨w.heap.size, 1, none⟩ = some (.int .i64 v.n) := hs.cell (p := ⟨w.heap.size, 1, none⟩) trivial c1
        have m2 : wc.cell? ⟨w.heap.size, 2, none⟩ = some (.string (str v.s)) := hs.cell (p := ⟨w.heap.size, 2, none⟩) trivial c2
        clear hd hz hf hw
        simp only [Region.wanted, if_true, Oper.wp, execOp, resolve, List.map_toArray, List.map_cons, List.map_nil, Option.map_some, Option.map_none, e0]
        go_simp
        exact hK _ _ rfl (Same.refl _ _)
      · intro ac wc hs hd hz hf hw K hK
        have e0 : ac.eval (.tmp 25) = (.agg #[.int .i64 v.kind, .int .i64 v.n, .string (str v.s)]) := hw 0 rfl
        clear hd hz hf hw
        simp only [Region.wanted, if_true, Oper.wp, execOp, resolve, List.map_toArray, List.map_cons, List.map_nil, Option.map_some, Option.map_none, e0]
        go_simp
        refine (hke _).mono ?_
        rintro e wd ⟨u, rfl, hu, hsu⟩
        exact hK _ _ (hu.lower hs.size) hsu
      · intro ac wc hs hd hz hf hw K hK
        have e0 : ac.eval (.tmp 2) = (.pointer (some ⟨w.heap.size, 0, none⟩)) := hf 2 rfl
        have m0 : wc.cell? ⟨w.heap.size, 0, none⟩ = some (.int .i64 v.kind) := hs.cell (p := ⟨w.heap.size, 0, none⟩) trivial c0
        have m1 : wc.cell? ⟨w.heap.size, 1, none⟩ = some (.int .i64 v.n) := hs.cell (p := ⟨w.heap.size, 1, none⟩) trivial c1
        have m2 : wc.cell? ⟨w.heap.size, 2, none⟩ = some (.string (str v.s)) := hs.cell (p := ⟨w.heap.size, 2, none⟩) trivial c2
        clear hd hz hf hw
        simp only [Region.wanted, if_true, Oper.wp, execOp, resolve, List.map_toArray, List.map_cons, List.map_nil, Option.map_some, Option.map_none, e0]
        go_simp
        exact hK _ _ rfl (Same.refl _ _)
      · intro ac wc hs hd hz hf hw K hK
        have e0 : ac.eval (.tmp 27) = (.agg #[.int .i64 v.kind, .int .i64 v.n, .string (str v.s)]) := hw 2 rfl
        have pk : ((SP.own w2.heap.size KK) : SP).p (valsOf _ ac 1) wc := hw 1 rfl
        clear hd hz hf hw
        simp only [Region.wanted, if_true, Oper.wp, execOp, resolve, List.map_toArray, List.map_cons, List.map_nil, Option.map_some, Option.map_none, e0]
        go_simp
        refine (hpl _).mono ?_
        rintro e wd ⟨u, rfl, hu, hsu⟩
        exact hK _ _ ⟨hu.lower hs.size, fun k h1 h2 => by have := (OwnB.lt_ (h := pk) h1).2; have := (hu.lt_ h2).1; omega⟩ hsu
    · intro vs wR hvl hvp hsR
      rcases vs with _ | ⟨z0, _ | ⟨z1, _ | ⟨z2, _ | ⟨z3, _ | ⟨zz, zr⟩⟩⟩⟩⟩
      rotate_right 1
      · simp at hvl
      · simp at hvl
      · simp at hvl
      · simp at hvl
      · simp at hvl
      · obtain rfl : z0 = (.agg #[.int .i64 v.kind, .int .i64 v.n, .string (str v.s)]) := hvp 0 (by omega)
        have hx : ((SP.own w2.heap.size KK) : SP).p z1 wR := hvp 1 (by omega)
        obtain rfl : z2 = (.agg #[.int .i64 v.kind, .int .i64 v.n, .string (str v.s)]) := hvp 2 (by omega)
        have hy : ((fun y x W => OwnB W w2.heap.size y PP ∧ ∀ k, x.ownBlock = some k → y.ownBlock ≠ some k)) z3 z1 wR := hvp 3 (by omega)
        clear hvl hvp
        simp only [putAll, Act.put, List.setIfInBounds_toArray, List.set_cons_succ, List.set_cons_zero, List.take_succ_cons, List.take_zero, List.drop_succ_cons, List.drop_zero, List.eraseIdx_cons_succ, List.eraseIdx_cons_zero]
        have hx0 : OwnB wR w2.heap.size z1 KK := hx
        have hy0 : OwnB wR w2.heap.size z3 PP := hy.1
        have hxy := hy.2
        obtain ⟨xA, xc, rfl, hx1, hx2⟩ := hx0.formN HKN.out.symm
        obtain ⟨yA, yc, rfl, hy1, hy2⟩ := hy0.formN HPN.out.symm
        have HX := Lib.hid hx0
        have HY := Lib.hid hy0
        have HXY := Lib.hid hxy
        have HSR := Lib.hid (HS2.out.trans hsR)
        have hBR := hsR.size
        have hrow : Row wR w.heap.size 24 (valCs v) := HR.out.keep hsR trivial
        clear c0 c1 c2 HR hx hy hx0 hy0 hxy
        have HR := Lib.hid hrow
        clear hrow
        go_wp2_with (at_builtin; refine stopAt ?_)
        unfold Hid
        refine wpList_appB rfl (.tmp 34) (.tmp 35) rfl (v := .slice xA KN xc) (u := .slice A N cap) rfl rfl HX.out ((HV.out.mono (S' := fun _ => True) fun _ _ _ => trivial).keepAll HSR.out) hBR (by have := HKN.out; have := HN.out; have := HKL.out; omega) ?_
        intro v3 w3 ho3 hs3 hb3
        have hxlt := fun k (h : (Value.slice xA KN xc).ownBlock = some k) => HX.out.lt_ h
        have HS3 := Lib.hid (HSR.out.trans' hs3 (fun i hi _ e => by have := (hxlt i e.symm).1; omega))
        have hy3 : OwnB w3 w2.heap.size (.slice yA PN yc) PP := own_keep HY.out hs3 (fun k hk e => HXY.out k e.symm hk)
        have hr3 : Row w3 w.heap.size 24 (valCs v) := HR.out.keep hs3 (fun e => by have := (hxlt _ e.symm).1; omega)
        have htk := takekey_any _ _ _ w3 ho3.by_ (by rw [List.length_append]; have := HKN.out; have := HN.out; have := HKL.out; omega)
        rw [HKR.out] at htk
        unfold TkP at htk
        obtain ⟨A3, c3, rfl, h31, h32⟩ := ho3.formN (n := KN + N) (by rw [List.length_append, ← HKN.out, ← HN.out])
        have hz3 : w2.heap.size ≤ w3.heap.size := by have := hs3.size; omega
        have HY3 := Lib.hid hy3
        have HR3 := Lib.hid hr3
        clear HXY hs3 hb3 ho3 hxlt hy3 hr3 HX HY HR
        go_wp2_with (go_at_call 23; refine stopAt ?_)
        unfold Hid
        refine htk.mono ?_
        rintro e w4 ⟨rfl, hs4⟩
        have HS4 := Lib.hid ((HS3.out.trans hs4).alloc (.cells #[.int .i64 v.kind, .int .i64 v.n, .string (str v.s)] 24))
        have HY4 := Lib.hid ((HY3.out.keepAll hs4).keepAll ((Same.refl _ _).alloc (.cells #[.int .i64 v.kind, .int .i64 v.n, .string (str v.s)] 24)))
        have HR4 := Lib.hid ((HR3.out.keep hs4 trivial).keep ((Same.refl (fun _ => True) _).alloc (.cells #[.int .i64 v.kind, .int .i64 v.n, .string (str v.s)] 24)) trivial)
        have HA4 := Lib.hid (val_new w4 v)
        have hz4 := hs4.size
        have HL := Lib.hid fun k (h : (Value.slice yA PN yc).ownBlock = some k) => HY3.out.lt_ h
        clear hs4 htk HY3 HR3
        go_wp2_with (at_builtin; refine stopAt ?_)
        unfold Hid
        refine wpList_appB rfl (.tmp 42) (.tmp 43) rfl (v := .slice yA PN yc) (u := .slice A N cap) rfl rfl HY4.out ((HV.out.mono (S' := fun _ => True) fun _ _ _ => trivial).keepAll HS4.out) (by rw [size_alloc1]; omega) (by have := HPN.out; have := HN.out; have := HPL.out; omega) ?_
        intro v5 w5 ho5 hs5 hb5
        have HS5 := Lib.hid (HS4.out.trans' hs5 (fun i hi _ e => by have := (HL.out i e.symm).1; omega))
        have hr5 : Row w5 w.heap.size 24 (valCs v) := HR4.out.keep hs5 (fun e => by have := (HL.out _ e.symm).1; omega)
        have ha5 : Row w5 w4.heap.size 24 (valCs v) := HA4.out.keep hs5 (fun e => by have := (HL.out _ e.symm).2; omega)
        have htk := take_any _ _ _ w5 ho5.by_ (by rw [List.length_append]; have := HPN.out; have := HN.out; have := HPL.out; omega)
        rw [HPR.out] at htk
        unfold TkP at htk
        obtain ⟨A5, c5, rfl, h51, h52⟩ := ho5.formN (n := PN + N) (by rw [List.length_append, ← HPN.out, ← HN.out])
        have hz5 := hs5.size
        rw [size_alloc1] at hz5
        have HR5 := Lib.hid hr5
        have HA5 := Lib.hid ha5
        clear HL hs5 hb5 ho5 hr5 ha5 HR4 HA4 HY4
        go_wp2_with (go_at_call 25; refine stopAt ?_)
        unfold Hid
        refine htk.mono ?_
        rintro e w6 ⟨rfl, hs6⟩
        have HS6 := Lib.hid (HS5.out.trans hs6)
        have hr6 := HR5.out.keep hs6 trivial
        have ha6 := HA5.out.keep hs6 trivial
        obtain ⟨x00, x01, x02, -, -, -⟩ := val_cells hr6
        obtain ⟨x10, x11, x12, -, -, -⟩ := val_cells ha6
        have y0 := hr6.lt
        have y1 := ha6.lt
        have HEQ := fun W => eqV v v W
        simp only [decide_true] at HEQ
        clear htk hs6 hr6 ha6 HR5 HA5
        go_wp2
        go_ret
        exact ⟨rfl, HS6.out.alloc _⟩
theorem back_walk (v : Val) (r : Value) (b : List UInt8) (S : Nat → Prop) (w : World) (hr : By w S r b) (hE : EnvT w) (hn : I64 v.n) :
    Calls Tryd.prog 7 #[valV v, r] w (BoolP true w) := by
  cases hm : mayV v
  · exact back_no v r b S w hr hE hm
  · exact back_yes v r b S w hr hE ((mayV_iff v).1 hm) hn
end Go.Proofs.YtpbekhcogpkbpaaDoor
