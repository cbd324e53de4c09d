/-
  WalLasts: its walk.
-/
import Derived.Test.YtpjinngngbifoaaWalW
import Derived.Deep.CutRange
set_option linter.unusedSimpArgs false
set_option linter.unusedVariables false
namespace Go.Proofs.Ytpjinngngbifoaa
open Go.RowKit

theorem place3 (k : Int) : placeF k 3 = 0 ∨ placeF k 3 = 1 ∨ placeF k 3 = 2 := by
  have := placeF_bd k 3
  have h2 := this.2 (by omega)
  omega
theorem lightw_yes {v : Value} {ops : List OpW} {most : Int} {S : Nat → Prop} {w : World} (hv : SlOf cOpW w S v ops) (hm0 : 0 ≤ most ∧ most ≤ 1000) {b : Bool} (h : b = true ↔ lightW most ops) :
    Calls Try.prog 23 #[v, .int .i64 most] w fun e w' => e = .returned (.bool b) ∧ w = w' := by
  refine (lightw_any v ops most S w hv hm0).mono ?_
  rintro e w' ⟨b', rfl, h', rfl⟩
  have : b' = b := by
    cases b <;> cases b' <;> simp_all
  subst this
  exact ⟨rfl, rfl⟩
theorem smallop_flat {o : OpW} (h : SmallOp o) : o.l.flatten.length ≤ 2000 := by
  have := sumFrom_small (most := 2000) (by omega) o.l 0 (by omega) (by have := h.2.2.1; unfold sumF at this; omega)
  omega
set_option maxRecDepth 100000 in
set_option maxHeartbeats 2000000 in
theorem wallasts_walk (vo vk vm : Value) (at_ again : Int) (ops : List OpW) (keep more : List Int) (w : World) (hvo : SlOf cOpW w (· < w.heap.size) vo ops) (hvk : Ints w (· < w.heap.size) vk keep) (hvm : Ints w (· < w.heap.size) vm more)
    (hat : -9223372036854775808 ≤ at_ ∧ at_ ≤ 9223372036854775807) (hag : -9223372036854775808 ≤ again ∧ again ≤ 9223372036854775807) :
    Calls Try.prog 5 #[vo, .int .i64 at_, vk, .int .i64 again, vm] w (TrueP w) := by
  obtain ⟨A, ca, rfl, hca, hma, -⟩ := id hvo
  obtain ⟨B, cb, rfl, hcb, hmb, -⟩ := id hvk
  obtain ⟨C, cc, rfl, hcc, hmc, -⟩ := id hvm
  unfold maxLen at hma hmb hmc
  obtain ⟨N, hN⟩ : ∃ n, n = ops.length := ⟨_, rfl⟩
  obtain ⟨M, hM⟩ : ∃ n, n = keep.length := ⟨_, rfl⟩
  obtain ⟨Q, hQ⟩ : ∃ n, n = more.length := ⟨_, rfl⟩
  rw [← hN] at hca hvo ⊢
  rw [← hM] at hcb hvk ⊢
  rw [← hQ] at hcc hvm ⊢
  have HN := Lib.hid hN
  have HM := Lib.hid hM
  have HQ := Lib.hid hQ
  have HO := Lib.hid hvo
  have HK := Lib.hid hvk
  have HE := Lib.hid hvm
  clear hN hM hQ hvo hvk hvm
  by_cases hlw : lightW 20 ops
  case neg =>
    have hlt := fun W (h : Same (fun _ => True) w W) => lightw_yes (b := false) (HO.out.keep (h.mono fun _ _ _ => trivial)) (most := 20) (by omega) (by simp [hlw])
    have HLT := Lib.hid hlt
    clear hlt hlw
    go_enter Try.func5, Try.ntmps5
    go_wp2_with (first
      | (go_at_call 9; refine (walbegun_any _).mono ?_; rintro e w1 ⟨rfl, hs1⟩)
      | (go_at_call 23; refine (HLT.out _ hs1).mono ?_; rintro e w' ⟨rfl, rfl⟩))
    go_ret
    exact ⟨rfl, hs1⟩

  have hlt := fun W (h : Same (fun _ => True) w W) => lightw_yes (b := true) (HO.out.keep (h.mono fun _ _ _ => trivial)) (most := 20) (by omega) (by simp [hlw])
  have HLT := Lib.hid hlt
  have HLW := Lib.hid hlw
  clear hlt hlw
  by_cases hc : 10 < M
  · go_enter Try.func5, Try.ntmps5
    go_wp2_with (first
      | (go_at_call 9; refine (walbegun_any _).mono ?_; rintro e w1 ⟨rfl, hs1⟩)
      | (go_at_call 23; refine (HLT.out _ hs1).mono ?_; rintro e w' ⟨rfl, rfl⟩)
      )
    go_ret
    exact ⟨rfl, hs1⟩
  have hm10 : M ≤ 10 := by omega
  clear hc
  by_cases hc : 10 < Q
  · go_enter Try.func5, Try.ntmps5
    go_wp2_with (first
      | (go_at_call 9; refine (walbegun_any _).mono ?_; rintro e w1 ⟨rfl, hs1⟩)
      | (go_at_call 23; refine (HLT.out _ hs1).mono ?_; rintro e w' ⟨rfl, rfl⟩)
      )
    go_ret
    exact ⟨rfl, hs1⟩
  have hq10 : Q ≤ 10 := by omega
  clear hc
  have hn20 : N ≤ 20 := by have := HLW.out.1; have := HN.out; omega
  obtain ⟨d0, l0, hop0, hg0, ha0, hu0, hs0, hv0, hgen0, hct0, hby0, hln0, hls0⟩ := open_new
  have hpl := fun W => place_any at_ 40 W hat (by omega)
  obtain ⟨P40, hP40⟩ : ∃ n, n = placeF at_ 40 := ⟨_, rfl⟩
  have hP40b : 0 ≤ P40 ∧ P40 ≤ 1000 := by have := placeF_bd at_ 40; have := this.2 (by omega); omega
  rw [← hP40] at hpl
  have hst0 := LstP.start hg0 ha0 hs0 hv0 hgen0 hct0 hby0 hln0 P40 hP40b
  have HPL := Lib.hid hpl
  have HOP := Lib.hid hop0
  have HST := Lib.hid hst0
  clear hop0 hg0 ha0 hu0 hs0 hv0 hgen0 hct0 hby0 hln0 hls0 hpl hP40 hst0
  go_enter Try.func5, Try.ntmps5
  go_wp2_with (first
    | (go_at_call 9; refine (walbegun_any _).mono ?_; rintro e w1 ⟨rfl, hs1⟩)
    | (go_at_call 23; refine (HLT.out _ hs1).mono ?_; rintro e w' ⟨rfl, rfl⟩)
    | (go_at_call 12; refine (dnew_any _).mono ?_; rintro e w2 ⟨g, r, rfl, hg, hr, hD0, hs2⟩))
  have hopn := wopen_any g r _ DiskM.new none none _ hD0 ⟨by decide, by decide⟩ (by decide) look_nil look_nil (by decide) (by decide)
  rw [HOP.out] at hopn
  have HS2 := Lib.hid (hs1.trans hs2)
  have hgr : w.heap.size ≤ g ∧ w.heap.size ≤ r := by have := hs1.size; omega
  clear hs1 hs2 hD0 hg hr
  go_wp2_with (go_at_call 15; refine stopAt ?_)
  unfold Hid
  refine hopn.mono ?_
  intro e w3 hpost
  obtain ⟨Ar, cr, F1, rfl, hF1, hby1, hL1, hs3⟩ := hpost.some
  obtain ⟨p, hp⟩ : ∃ p, p = w2.heap.size := ⟨_, rfl⟩
  rw [← hp] at hL1 ⊢
  have hB : w.heap.size ≤ p ∧ w.heap.size ≤ g ∧ w.heap.size ≤ r := by have := HS2.out.size; omega
  have HS3 : Hid (Same (fun _ => True) w w3) := Lib.hid (HS2.out.trans' hs3 fun k hk _ => by constructor <;> omega)
  have harm := darm_any g r F1 d0 P40 w3 hL1.disk
  have HL1 := Lib.hid hL1
  clear hpost hopn hby1 hF1 hL1 hs3 hp hgr
  go_wp2_with (first | (go_at_call 25; refine (HPL.out _).mono ?_; rintro e w' ⟨rfl, rfl⟩) | (go_at_call 24; refine stopAt ?_))
  unfold Hid
  refine harm.mono ?_
  rintro e w4 ⟨rfl, hD4, hs4⟩
  have HI4 : Hid (LstIn w p g r [] 0 false [] 0 d0.off w4) := Lib.hid ⟨_, l0, F1, HST.out, rfl, ⟨hD4, HL1.out.wal.keep hs4 ⟨HL1.out.pg, HL1.out.pr⟩, HL1.out.pF, HL1.out.pg, HL1.out.pr⟩, HS3.out.trans' hs4 fun k hk _ => by constructor <;> omega⟩
  obtain ⟨B0, hB0⟩ : ∃ B0, B0 = w4.heap.size := ⟨_, rfl⟩
  have hBp : p < B0 ∧ g < B0 ∧ r < B0 ∧ B0 ≤ w4.heap.size := by
    have h1 := Row.lt HL1.out.wal
    have h2 := hD4.2.1
    have h3 := hD4.2.2.1
    have h4 := hs4.size
    omega
  clear harm hD4 hs4 hB0
  generalize d0.off = off0 at HI4
  go_wp2
  go_loopw [15, 16, 17, 18, 19] (fun vn vx vs vf vi wr => ∃ (k : Nat) (now next : List (List UInt8)) (safe : Nat) (failed off : Bool), k ≤ N ∧ vi = .int .i64 k ∧ vs = .int .i64 safe ∧ vf = .bool failed ∧ Hid (RdS wr (B0 ≤ ·) vn now) ∧ Hid (RdS wr (B0 ≤ ·) vx next) ∧ next.length ≤ 1000 ∧ B0 ≤ wr.heap.size ∧ Hid (LstIn w p g r now safe failed next k off wr)) (fun _ _ _ _ vi _ => N - (intOf vi).toNat)
  case atStart => exact ⟨0, [], [], 0, false, off0, by omega, rfl, rfl, rfl, Lib.hid (RdS.nil _ _), Lib.hid (RdS.nil _ _), by simp, hBp.2.2.2, HI4⟩
  case round =>
    obtain ⟨k, now, next, safe, failed, off, hk, rfl, rfl, rfl, HNW, HNX, hnx, hB0w, HI⟩ := hrel
    obtain ⟨wo, rfl⟩ : ∃ wo : World, wo = wr := ⟨_, rfl⟩
    clear HI4
    obtain ⟨An, cn, rfl, hcn, hmn, -⟩ := id HNW.out
    obtain ⟨Ax, cx, rfl, hcx, hmx, -⟩ := id HNX.out
    unfold maxLen at hmn hmx
    have hnow := HI.out.facts
    obtain ⟨LN, hLN⟩ : ∃ n, n = now.length := ⟨_, rfl⟩
    obtain ⟨LX, hLX⟩ : ∃ n, n = next.length := ⟨_, rfl⟩
    have hnw := HNW.out
    have hnxt := HNX.out
    rw [← hLN] at hcn hnow hnw ⊢
    rw [← hLX] at hcx hnx hnxt ⊢
    have HNW := Lib.hid hnw
    have HNX := Lib.hid hnxt
    have HLN := Lib.hid hLN
    have HLX := Lib.hid hLX
    clear hLN hLX hnw hnxt
    have hdd := HI.out.dead
    by_cases hgo : k < N ∧ off = false
    · obtain ⟨hkN, rfl⟩ := hgo
      have hko : k < ops.length := by rw [← HN.out]; exact hkN
      obtain ⟨ad, vb, vl, vkk, rfl, hadb, c0, c1, c2, c3, c4, c5, hb, hl, -, hki, -⟩ := opw_at (HO.out.keep (HI.out.same.mono fun _ _ _ => trivial)) hko
      have hsm := Lib.hid (HLW.out.2 _ (List.getElem_mem hko))
      generalize ops[k] = o at *
      obtain ⟨Ab, cb', rfl, hcb', -, -⟩ := id hb
      obtain ⟨Al, cl', vsl, rfl, hcl', -, -, -⟩ := id hl
      have hlt0 := World.block_lt_of_cell? wo _ c0
      have hlt3 := World.block_lt_of_cell? wo _ c3
      obtain ⟨LB, hLB⟩ : ∃ n, n = o.b.length := ⟨_, rfl⟩
      obtain ⟨LL, hLL⟩ : ∃ n, n = o.l.length := ⟨_, rfl⟩
      rw [← hLB] at c3 hb hcb'
      rw [← hLL] at c4 hl hcl'
      have HLB := Lib.hid hLB
      have HLL := Lib.hid hLL
      have HBY := Lib.hid hb
      have HLY := Lib.hid hl
      have hpl3 := place_any o.kind 3 wo hki (by omega)
      clear hLB hLL hb hl hki c1 c2 c5
      have hk20 : k ≤ 100 := by omega
      rcases place3 o.kind with hq | hq | hq
      · rw [hq] at hpl3
        clear hq
        go_wp2_with (first | (go_at_call 26; refine hdd.mono ?_; rintro e w' ⟨rfl, rfl⟩) | (go_at_call 25; refine hpl3.mono ?_; rintro e w' ⟨rfl, rfl⟩))
        refine wp_region_tail_lit (L := [.of ⟨fun v w => ∃ q, v = .slice (some ⟨q, 0, none⟩) 0 0 ∧ w.ownsRow wo.heap.size 9 1 (.slice (some ⟨q, 0, none⟩) 0 0) 0 [], fun _ _ _ ⟨q, h1, h2⟩ k => ⟨q, h1, own_keepAll h2 k⟩⟩, .eq (.slice An LN cn), .of ⟨fun v w => w.ownsRow wo.heap.size 9 1 v LN (now.map strV), fun _ _ _ h k => own_keepAll h k⟩, .eq (.slice (some ad) N ca), .eq (.int .i64 k), .eq (.pointer (some (ad.add (k * 6)))), .eq (.pointer (some ⟨(ad.add (k * 6)).block, (ad.add (k * 6)).off + 3, none⟩)), .eq (.slice Ab LB cb'), .eq (.string (str o.b)), .of ⟨fun v w => ∃ q, v = .slice (some ⟨q, 0, none⟩) 1 1 ∧ Row w q 9 [strV o.b], fun _ _ _ ⟨q, h1, h2⟩ k => ⟨q, h1, h2.keep k trivial⟩⟩]) 10 (by kernel_rfl) (by kernel_rfl) rfl rfl rfl ?_ ?_
        · refine ⟨?_, ?_, ?_, ?_, ?_, ?_, ?_, ?_, ?_, ?_, trivial⟩
          · intro ac wc hs hd hz hf hw K hK
            clear hd hz hf hw
            simp only [Region.wanted, if_true, Oper.wp, execOp, resolve, List.map_toArray, List.map_cons, List.map_nil, Option.map_some, Option.map_none]
            go_simp
            exact hK _ _ ⟨_, rfl, (Row.new wc 9 []).owns (base := wo.heap.size) (size := 1) (n := 0) (cap := 0) hs.size (by simp) (Nat.le_refl _) (by simp [maxLen])⟩ ((Same.refl _ _).alloc _)
          · intro ac wc hs hd hz hf hw K hK
            have e0 : ac.eval (.tmp 15) = (.slice An LN cn) := hf 15 rfl
            clear hd hz hf hw
            simp only [Region.wanted, if_true, Oper.wp, execOp, resolve, List.map_toArray, List.map_cons, List.map_nil, Option.map_some, Option.map_none, e0]
            go_simp
            exact hK _ _ rfl (Same.refl _ _)
          · intro ac wc hs hd hz hf hw K hK
            have p0 : (⟨fun v w => ∃ q, v = .slice (some ⟨q, 0, none⟩) 0 0 ∧ w.ownsRow wo.heap.size 9 1 (.slice (some ⟨q, 0, none⟩) 0 0) 0 [], fun _ _ _ ⟨q, h1, h2⟩ k => ⟨q, h1, own_keepAll h2 k⟩⟩ : SP).p (ac.eval (.tmp 91)) wc := hw 0 rfl
            obtain ⟨u0, e0⟩ : ∃ u, ac.eval (.tmp 91) = u := ⟨_, rfl⟩
            rw [e0] at p0
            have e1 : ac.eval (.tmp 92) = (.slice An LN cn) := hw 1 rfl
            obtain ⟨q, rfl, hq⟩ := p0
            obtain ⟨An', cn', ee, -, -, hsln⟩ := HNW.out.keep (hs.mono fun _ _ _ => trivial)
            injection ee with ee1 ee2 ee3
            subst ee1
            rw [← HLN.out] at hsln
            refine step_appES TSt rfl (.tmp 91) (.tmp 92) rfl e0 e1 hq hsln hs.size (by omega) (by omega) ?_
            intro v' w' h1 h2
            exact hK _ _ h1 h2
          · intro ac wc hs hd hz hf hw K hK
            have e0 : ac.eval (.tmp 0) = (.slice (some ad) N ca) := hf 0 rfl
            clear hd hz hf hw
            simp only [Region.wanted, if_true, Oper.wp, execOp, resolve, List.map_toArray, List.map_cons, List.map_nil, Option.map_some, Option.map_none, e0]
            go_simp
            exact hK _ _ rfl (Same.refl _ _)
          · intro ac wc hs hd hz hf hw K hK
            have e0 : ac.eval (.tmp 19) = (.int .i64 k) := hf 19 rfl
            clear hd hz hf hw
            simp only [Region.wanted, if_true, Oper.wp, execOp, resolve, List.map_toArray, List.map_cons, List.map_nil, Option.map_some, Option.map_none, e0]
            go_simp
            exact hK _ _ rfl (Same.refl _ _)
          · intro ac wc hs hd hz hf hw K hK
            have e0 : ac.eval (.tmp 94) = (.slice (some ad) N ca) := hw 3 rfl
            have e1 : ac.eval (.tmp 95) = (.int .i64 k) := hw 4 rfl
            clear hd hz hf hw
            simp only [Region.wanted, if_true, Oper.wp, execOp, resolve, List.map_toArray, List.map_cons, List.map_nil, Option.map_some, Option.map_none, e0, e1]
            go_simp
            exact hK _ _ rfl (Same.refl _ _)
          · intro ac wc hs hd hz hf hw K hK
            have e0 : ac.eval (.tmp 96) = (.pointer (some (ad.add (k * 6)))) := hw 5 rfl
            clear hd hz hf hw
            simp only [Region.wanted, if_true, Oper.wp, execOp, resolve, List.map_toArray, List.map_cons, List.map_nil, Option.map_some, Option.map_none, e0]
            go_simp
            exact hK _ _ rfl (Same.refl _ _)
          · intro ac wc hs hd hz hf hw K hK
            have e0 : ac.eval (.tmp 97) = (.pointer (some ⟨(ad.add (k * 6)).block, (ad.add (k * 6)).off + 3, none⟩)) := hw 6 rfl
            have m0 : wc.cell? ⟨(ad.add (k * 6)).block, (ad.add (k * 6)).off + 3, none⟩ = some (.slice Ab LB cb') := hs.cell (p := ⟨(ad.add (k * 6)).block, (ad.add (k * 6)).off + 3, none⟩) trivial c3
            clear hd hz hf hw
            simp only [Region.wanted, if_true, Oper.wp, execOp, resolve, List.map_toArray, List.map_cons, List.map_nil, Option.map_some, Option.map_none, e0]
            go_simp
            exact hK _ _ rfl (Same.refl _ _)
          · intro ac wc hs hd hz hf hw K hK
            have e0 : ac.eval (.tmp 98) = (.slice Ab LB cb') := hw 7 rfl
            have hcv := conv_by (HBY.out.keep (hs.mono fun _ _ _ => trivial))
            clear hd hz hf hw
            simp only [Region.wanted, if_true, Oper.wp, execOp, resolve, List.map_toArray, List.map_cons, List.map_nil, Option.map_some, Option.map_none, e0]
            go_simp
            exact hK _ _ rfl (Same.refl _ _)
          · intro ac wc hs hd hz hf hw K hK
            have e0 : ac.eval (.tmp 99) = (.string (str o.b)) := hw 8 rfl
            clear hd hz hf hw
            simp only [Region.wanted, if_true, Oper.wp, execOp, resolve, List.map_toArray, List.map_cons, List.map_nil, Option.map_some, Option.map_none, e0]
            go_simp
            exact hK _ _ ⟨_, rfl, Row.new _ _ _⟩ ((Same.refl _ _).alloc _)
        · intro vs wR hvl hvp hsR
          rcases vs with _ | ⟨z0, _ | ⟨z1, _ | ⟨z2, _ | ⟨z3, _ | ⟨z4, _ | ⟨z5, _ | ⟨z6, _ | ⟨z7, _ | ⟨z8, _ | ⟨z9, _ | ⟨zz, zr⟩⟩⟩⟩⟩⟩⟩⟩⟩⟩⟩
          rotate_right 1
          · simp at hvl
          · simp at hvl
          · simp at hvl
          · simp at hvl
          · simp at hvl
          · simp at hvl
          · simp at hvl
          · simp at hvl
          · simp at hvl
          · simp at hvl
          · simp at hvl
          · have hx0 : (⟨fun v w => ∃ q, v = .slice (some ⟨q, 0, none⟩) 0 0 ∧ w.ownsRow wo.heap.size 9 1 (.slice (some ⟨q, 0, none⟩) 0 0) 0 [], fun _ _ _ ⟨q, h1, h2⟩ k => ⟨q, h1, own_keepAll h2 k⟩⟩ : SP).p z0 wR := hvp 0 (by omega)
            obtain rfl : z1 = (.slice An LN cn) := hvp 1 (by omega)
            have hx1 : (⟨fun v w => w.ownsRow wo.heap.size 9 1 v LN (now.map strV), fun _ _ _ h k => own_keepAll h k⟩ : SP).p z2 wR := hvp 2 (by omega)
            obtain rfl : z3 = (.slice (some ad) N ca) := hvp 3 (by omega)
            obtain rfl : z4 = (.int .i64 k) := hvp 4 (by omega)
            obtain rfl : z5 = (.pointer (some (ad.add (k * 6)))) := hvp 5 (by omega)
            obtain rfl : z6 = (.pointer (some ⟨(ad.add (k * 6)).block, (ad.add (k * 6)).off + 3, none⟩)) := hvp 6 (by omega)
            obtain rfl : z7 = (.slice Ab LB cb') := hvp 7 (by omega)
            obtain rfl : z8 = (.string (str o.b)) := hvp 8 (by omega)
            have hx2 : (⟨fun v w => ∃ q, v = .slice (some ⟨q, 0, none⟩) 1 1 ∧ Row w q 9 [strV o.b], fun _ _ _ ⟨q, h1, h2⟩ k => ⟨q, h1, h2.keep k trivial⟩⟩ : SP).p z9 wR := hvp 9 (by omega)
            clear hvl hvp
            simp only [putAll, Act.put, List.setIfInBounds_toArray, List.set_cons_succ, List.set_cons_zero, List.take_succ_cons, List.take_zero, List.drop_succ_cons, List.drop_zero, List.eraseIdx_cons_succ, List.eraseIdx_cons_zero]
            obtain ⟨q2, rfl, hrow⟩ := hx2
            have hsl1 : Sl wR (fun _ => True) 1 (some ⟨q2, 0, none⟩) 1 [strV o.b] := by
              have := hrow.sl (size := 1) (off := 0) (n := 1) (by simp)
              exact (by simpa using this : Sl wR (fun k => k = q2) 1 (some ⟨q2, 0, none⟩) 1 [strV o.b]).mono fun _ _ _ => trivial
            have hLNb : LN ≤ 120 := by omega
            go_wp2_with (at_builtin; refine stopAt ?_)
            unfold Hid
            refine wpList_app TSt _ rfl (.tmp 93) (.tmp 100) rfl wo.heap.size _ LN (now.map strV) rfl hx1 (fun _ => True) (some ⟨q2, 0, none⟩) 1 1 [strV o.b] rfl hsl1 (by simp [Value.oneCell']) (by simp only [maxLen]; omega) (by omega) hsR.size ?_
            intro v6 w6 hown6 hs6 _
            have hown : OwnS w6 wo.heap.size v6 (now ++ [o.b]) := by
              unfold OwnS
              rw [List.length_append, List.map_append, ← HLN.out]
              exact hown6
            have HS6 : Hid (Same (fun _ => True) wo w6) := Lib.hid (hsR.trans' hs6 fun k hk _ e => by have := own_ge hx1 e; omega)
            obtain ⟨A6, c6, rfl, -, -⟩ := own_cap hown6
            have hrd := hown.rd
            have hrd2 : RdS w6 (B0 ≤ ·) (.slice A6 (LN + 1) c6) (now ++ [o.b]) := hrd.mono fun q _ hq => by have hq : wo.heap.size ≤ q := hq; show B0 ≤ q; omega
            have HRD := Lib.hid hrd2
            have hcap6 : LN + 1 ≤ c6 ∧ c6 ≤ maxLen := by
              obtain ⟨A', c', e, h1, h2, -⟩ := hrd2
              injection e with e1 e2 e3
              subst e3
              rw [List.length_append, ← HLN.out] at h1
              exact ⟨h1, h2⟩
            have hcp := hcap6.1
            have hcq := hcap6.2
            unfold maxLen at hcq
            have cc3 := HS6.out.cell trivial c3
            have hlt5 := World.block_lt_of_cell? _ _ cc3
            have hI6 := HI.out.keepAll HS6.out
            have hap := hI6.app hB hk20 (HBY.out.keep (HS6.out.mono fun _ _ _ => trivial)) (by rw [← HLB.out]; have := hsm.out.1; have := HLB.out; omega)
            have hnx6 := Lib.hid (HNX.out.keep (HS6.out.mono fun _ _ _ => trivial))
            have hz6 := HS6.out.size
            clear hrd hrd2 hown hown6 hs6 hsl1 hrow hx1 hsR hcap6 hI6
            rcases hap with hap | hap
            · go_wp2_with (go_at_call 18; refine hap.mono ?_; rintro e w7 ⟨rfl, hI7, hS7⟩)
              go_roundw
              case rel =>
                refine ⟨k + 1, now, next, safe, failed, true, by omega, by go_num, rfl, rfl, Lib.hid ?_, Lib.hid (hnx6.out.keep (hS7.mono (fun q hq hh => ⟨by have : B0 ≤ q := hh; omega, by have : B0 ≤ q := hh; omega, by have : B0 ≤ q := hh; omega⟩))), by rw [← HLX.out]; exact hnx, Nat.le_trans (Nat.le_trans hB0w hz6) hS7.size, Lib.hid hI7⟩
                have h7 := (HRD.out.keep (hS7.mono (fun q hq hh => ⟨by have : B0 ≤ q := hh; omega, by have : B0 ≤ q := hh; omega, by have : B0 ≤ q := hh; omega⟩))).take (k := LN) (by rw [List.length_append, ← HLN.out]; omega)
                rw [HLN.out, List.take_left, ← HLN.out] at h7
                exact h7
              case measure => simp [intOf]; omega
            · go_wp2_with (go_at_call 18; refine hap.mono ?_; rintro e w7 ⟨rfl, hI7, hS7⟩)
              go_roundw
              case rel => exact ⟨k + 1, now ++ [o.b], next, safe, failed, false, by omega, by go_num, rfl, rfl, Lib.hid (HRD.out.keep (hS7.mono (fun q hq hh => ⟨by have : B0 ≤ q := hh; omega, by have : B0 ≤ q := hh; omega, by have : B0 ≤ q := hh; omega⟩))), Lib.hid (hnx6.out.keep (hS7.mono (fun q hq hh => ⟨by have : B0 ≤ q := hh; omega, by have : B0 ≤ q := hh; omega, by have : B0 ≤ q := hh; omega⟩))), by rw [← HLX.out]; exact hnx, Nat.le_trans (Nat.le_trans hB0w hz6) hS7.size, Lib.hid hI7⟩
              case measure => simp [intOf]; omega
      · rw [hq] at hpl3
        clear hq
        have hsy := HI.out.syn hB hk20
        rcases hsy with hsy | hsy
        · go_wp2_with (first | (go_at_call 26; refine hdd.mono ?_; rintro e w' ⟨rfl, rfl⟩) | (go_at_call 25; refine hpl3.mono ?_; rintro e w' ⟨rfl, rfl⟩) | (go_at_call 19; refine hsy.mono ?_; rintro e w5 ⟨rfl, hI5, hS5⟩))
          go_roundw
          case rel => exact ⟨k + 1, now, next, safe, failed, true, by omega, by go_num, rfl, rfl, Lib.hid (HNW.out.keep (hS5.mono (fun q hq hh => ⟨by have : B0 ≤ q := hh; omega, by have : B0 ≤ q := hh; omega, by have : B0 ≤ q := hh; omega⟩))), Lib.hid (HNX.out.keep (hS5.mono (fun q hq hh => ⟨by have : B0 ≤ q := hh; omega, by have : B0 ≤ q := hh; omega, by have : B0 ≤ q := hh; omega⟩))), by rw [← HLX.out]; exact hnx, Nat.le_trans hB0w hS5.size, Lib.hid (by exact hI5)⟩
          case measure => simp [intOf]; omega
        · go_wp2_with (first | (go_at_call 26; refine hdd.mono ?_; rintro e w' ⟨rfl, rfl⟩) | (go_at_call 25; refine hpl3.mono ?_; rintro e w' ⟨rfl, rfl⟩) | (go_at_call 19; refine hsy.mono ?_; rintro e w5 ⟨rfl, hI5, hS5⟩))
          go_roundw
          case rel => exact ⟨k + 1, now, next, LN, failed, false, by omega, by go_num, rfl, rfl, Lib.hid (HNW.out.keep (hS5.mono (fun q hq hh => ⟨by have : B0 ≤ q := hh; omega, by have : B0 ≤ q := hh; omega, by have : B0 ≤ q := hh; omega⟩))), Lib.hid (HNX.out.keep (hS5.mono (fun q hq hh => ⟨by have : B0 ≤ q := hh; omega, by have : B0 ≤ q := hh; omega, by have : B0 ≤ q := hh; omega⟩))), by rw [← HLX.out]; exact hnx, Nat.le_trans hB0w hS5.size, Lib.hid (by rw [HLN.out]; exact hI5)⟩
          case measure => simp [intOf]; omega
      · rw [hq] at hpl3
        clear hq
        have hrw := HI.out.rew hB hk20 HLY.out (hsm.out.2.1) (smallop_flat hsm.out)
        rcases hrw with hrw | hrw
        · go_wp2_with (first | (go_at_call 26; refine hdd.mono ?_; rintro e w' ⟨rfl, rfl⟩) | (go_at_call 25; refine hpl3.mono ?_; rintro e w' ⟨rfl, rfl⟩) | (go_at_call 21; refine stopAt ?_))
          unfold Hid
          refine hrw.mono ?_
          rintro e w5 ⟨rfl, hI5, hS5⟩
          have hwo := HI.out.same.size
          have hadw : ad.block < w.heap.size := by assumption
          have cc4 := hS5.cell (p := ⟨(ad.add (k * 6)).block, (ad.add (k * 6)).off + 4, none⟩) (by show Lk p g r (ad.add (k * 6)).block; rw [block_of_add]; exact ⟨by omega, by omega, by omega⟩) c4
          have hly5 := HLY.out.keep (hS5.mono fun q hq hh => by
            have hh : q < w.heap.size := hh
            exact ⟨by omega, by omega, by omega⟩)
          have hlt4 := World.block_lt_of_cell? _ _ cc4
          clear hrw
          go_wp2_with (go_at_call 17; refine stopAt ?_)
          unfold Hid
          have htx := texts_any _ o.l _ w5 hly5 (by rw [← HLL.out]; have := hsm.out.2.1; have := HLL.out; omega)
          refine htx.mono ?_
          rintro e w6 ⟨u6, rfl, hu6, hs6⟩
          obtain ⟨A6, c6, rfl, -, -⟩ := OwnS.form hu6
          rw [← HLL.out]
          have hu6r := hu6.rd
          rw [← HLL.out] at hu6r
          have hz5 := hS5.size
          have hz6 := hs6.size
          have HU6 := Lib.hid (hu6r.mono (S' := (B0 ≤ ·)) fun q _ hq => by have hq : w5.heap.size ≤ q := hq; show B0 ≤ q; omega)
          clear hu6 hu6r htx hly5 cc4
          go_wp2
          go_roundw
          case rel => exact ⟨k + 1, now, o.l, safe, true, true, by omega, by go_num, rfl, rfl, Lib.hid ((HNW.out.keep (hS5.mono (fun q hq hh => ⟨by have : B0 ≤ q := hh; omega, by have : B0 ≤ q := hh; omega, by have : B0 ≤ q := hh; omega⟩))).keep (hs6.mono fun _ _ _ => trivial)), HU6, by rw [← HLL.out]; have := hsm.out.2.1; have := HLL.out; omega, by omega, Lib.hid (hI5.keepAll hs6)⟩
          case measure => simp [intOf]; omega
        · go_wp2_with (first | (go_at_call 26; refine hdd.mono ?_; rintro e w' ⟨rfl, rfl⟩) | (go_at_call 25; refine hpl3.mono ?_; rintro e w' ⟨rfl, rfl⟩) | (go_at_call 21; refine stopAt ?_))
          unfold Hid
          refine hrw.mono ?_
          rintro e w5 ⟨rfl, hI5, hS5⟩
          have hwo := HI.out.same.size
          have hadw : ad.block < w.heap.size := by assumption
          have cc4 := hS5.cell (p := ⟨(ad.add (k * 6)).block, (ad.add (k * 6)).off + 4, none⟩) (by show Lk p g r (ad.add (k * 6)).block; rw [block_of_add]; exact ⟨by omega, by omega, by omega⟩) c4
          have hly5 := HLY.out.keep (hS5.mono fun q hq hh => by
            have hh : q < w.heap.size := hh
            exact ⟨by omega, by omega, by omega⟩)
          have hlt4 := World.block_lt_of_cell? _ _ cc4
          clear hrw
          go_wp2_with (go_at_call 17; refine stopAt ?_)
          unfold Hid
          have htx := texts_any _ o.l _ w5 hly5 (by rw [← HLL.out]; have := hsm.out.2.1; have := HLL.out; omega)
          refine htx.mono ?_
          rintro e w6 ⟨u6, rfl, hu6, hs6⟩
          obtain ⟨A6, c6, rfl, -, -⟩ := OwnS.form hu6
          rw [← HLL.out]
          have hu6r := hu6.rd
          rw [← HLL.out] at hu6r
          have hz5 := hS5.size
          have hz6 := hs6.size
          have HU6 := Lib.hid (hu6r.mono (S' := (B0 ≤ ·)) fun q _ hq => by have hq : w5.heap.size ≤ q := hq; show B0 ≤ q; omega)
          clear hu6 hu6r htx hly5 cc4
          go_wp2
          go_roundw
          case rel => exact ⟨k + 1, o.l, next, LL, failed, false, by omega, by go_num, rfl, rfl, HU6, Lib.hid ((HNX.out.keep (hS5.mono (fun q hq hh => ⟨by have : B0 ≤ q := hh; omega, by have : B0 ≤ q := hh; omega, by have : B0 ≤ q := hh; omega⟩))).keep (hs6.mono fun _ _ _ => trivial)), by rw [← HLX.out]; exact hnx, by omega, Lib.hid (by rw [HLL.out]; exact hI5.keepAll hs6)⟩
          case measure => simp [intOf]; omega
    · go_upto_region 13 with (fail)
      go_cut [58] from 50 to 59 (fun v wx => v = .bool false ∧ ∃ W, W = wx ∧ W = wo)
      case first =>
        by_cases hkN : k < N
        · have ho : off = true := by
            cases off with
            | true => rfl
            | false => exact absurd ⟨hkN, rfl⟩ hgo
          subst ho
          clear hgo
          go_wp2_with (go_at_call 26; refine hdd.mono ?_; rintro e w' ⟨rfl, rfl⟩)
          go_meet
          exact ⟨rfl, _, rfl, rfl⟩
        · obtain rfl : N = k := by omega
          clear hgo
          go_wp2
          go_meet
          exact ⟨rfl, _, rfl, rfl⟩
      case rest =>
        obtain ⟨rfl, W, rfl, hWo⟩ := hcut
        subst hWo
        clear hgo hdd
        obtain ⟨d, l, F, hP, hoff, hL, hS⟩ := HI.out
        have hpl6 := fun W => place_any again 6 W hag (by omega)
        obtain ⟨P6, hP6⟩ : ∃ n, n = placeF again 6 := ⟨_, rfl⟩
        have hP6b : 0 ≤ P6 ∧ P6 ≤ 1000 := by have := placeF_bd again 6; have := this.2 (by omega); omega
        rw [← hP6] at hpl6
        obtain ⟨R, hacc, hfin⟩ := hP.end_ (by omega) keep more P6 hP6b
        have hRl : R.length ≤ 1000 := by
          rcases hacc with ⟨m, -, h1, h2⟩ | ⟨-, h2⟩
          · rw [h2, List.length_take]; have := HLN.out; omega
          · rw [h2, ← HLX.out]; exact hnx
        have HPL6 := Lib.hid hpl6
        have HACC := Lib.hid hacc
        have HFIN := Lib.hid hfin
        have HP := Lib.hid hP
        have hlenD : Len d 12000 := hP.len.mono (by omega)
        have hw0 := hS.size
        have hpow := dpower_any g r F (· < w.heap.size) d keep (.slice B M cb) _ hL.disk hP.ok (HK.out.keep (hS.mono fun _ _ _ => trivial)) (fun q hq => by have hq : q < w.heap.size := hq; omega) (by have h0 := hlenD.f0; have h1 := hlenD.f1; omega) (by rw [hP.lives]; omega)
        have HLD := Lib.hid hlenD
        have HS := Lib.hid hS
        clear hpl6 hP6 hacc hfin hP hlenD hL hS
        go_wp2_with (go_at_call 20; refine stopAt ?_)
        unfold Hid
        refine hpow.mono ?_
        rintro e w5 ⟨rfl, hD5, hs5⟩
        have HS5 : Hid (Same (fun _ => True) w w5) := Lib.hid (HS.out.trans' hs5 fun q hq _ => by constructor <;> omega)
        have harm := darm_any g r F (d.power keep) P6 w5 hD5
        have hnw5 := Lib.hid (HNW.out.keep (hs5.mono fun q hq hh => by have hh : B0 ≤ q := hh; omega))
        have hnx5 := Lib.hid (HNX.out.keep (hs5.mono fun q hq hh => by have hh : B0 ≤ q := hh; omega))
        have hz5 := hs5.size
        clear hpow hD5 hs5
        go_wp2_with (first | (go_at_call 25; refine (HPL6.out _).mono ?_; rintro e w' ⟨rfl, rfl⟩) | (go_at_call 24; refine stopAt ?_))
        unfold Hid
        refine harm.mono ?_
        rintro e w6 ⟨rfl, hD6, hs6⟩
        have HS6 : Hid (Same (fun _ => True) w w6) := Lib.hid (HS5.out.trans' hs6 fun q hq _ => by constructor <;> omega)
        have hnw6 := Lib.hid (hnw5.out.keep (hs6.mono fun q hq hh => by have hh : B0 ≤ q := hh; omega))
        have hnx6 := Lib.hid (hnx5.out.keep (hs6.mono fun q hq hh => by have hh : B0 ≤ q := hh; omega))
        have hz6 := hs6.size
        obtain ⟨m0, hm0⟩ := look_total ((d.power keep).arm P6).f0.b
        obtain ⟨m1, hm1⟩ := look_total ((d.power keep).arm P6).f1.b
        have hlA : Len ((d.power keep).arm P6) 12000 := (HLD.out.power keep).arm P6
        have hfA : ((d.power keep).arm P6).Fit := ⟨by show -1 ≤ max P6 (-1) ∧ max P6 (-1) ≤ _; omega, by show d.steps < _; have := HP.out.steps; omega⟩
        have hop := wopen_any g r F ((d.power keep).arm P6) m0 m1 w6 hD6 hfA (by show d.steps + 3 < _; have := HP.out.steps; omega) hm0 hm1 (by have := hlA.f0; omega) (by have := hlA.f1; omega)
        have hkp := openW_kept hm0 hm1 hlA (by omega) hfA.armed
        have hokA : ((d.power keep).arm P6).Ok := by
          have := power_ok HP.out.ok keep
          exact ⟨this.l0, this.l1, hfA.armed⟩
        have hokB := openW_ok (m0 := m0) (m1 := m1) hokA
        have hfin2 := HFIN.out m0 m1 hm0 hm1
        have hstA : ((d.power keep).arm P6).steps ≤ 100 := by show d.steps ≤ _; have := HP.out.steps; omega
        have hlvA : ((d.power keep).arm P6).lives = 1 := by show d.lives + 1 = 1; rw [HP.out.lives]
        obtain ⟨D2, hD2⟩ : ∃ D2, D2 = openW ((d.power keep).arm P6) m0 m1 := ⟨_, rfl⟩
        rw [← hD2] at hop hkp hokB hfin2
        have HKP := Lib.hid hkp
        have HOKB := Lib.hid hokB
        have HFIN2 := Lib.hid hfin2
        clear harm hD6 hs6 hm0 hm1 hlA hfA hkp hokA hokB hfin2 hD2 hnw5 hnx5
        go_wp2_with (go_at_call 15; refine stopAt ?_)
        unfold Hid
        refine hop.mono ?_
        intro e w7 hpost
        obtain ⟨pv, A7, n7, c7, F7, rfl, hF7, hD7, hs7⟩ := hpost.disk
        have HS7 : Hid (Same (fun _ => True) w w7) := Lib.hid (HS6.out.trans' hs7 fun q hq _ => by constructor <;> omega)
        have hnw7 := Lib.hid (hnw6.out.keep (hs7.mono fun q hq hh => by have hh : B0 ≤ q := hh; omega))
        have hnx7 := Lib.hid (hnx6.out.keep (hs7.mono fun q hq hh => by have hh : B0 ≤ q := hh; omega))
        have hlb := HKP.out.len
        have hw7 := HS7.out.size
        have hpow := dpower_any g r F7 (· < w.heap.size) D2.2.1 more (.slice C Q cc) w7 hD7 HOKB.out (HE.out.keep (HS7.out.mono fun _ _ _ => trivial)) (fun q hq => by have hq : q < w.heap.size := hq; omega) (by have h0 := hlb.f0; have h1 := hlb.f1; omega) (by rw [HKP.out.lives, hlvA]; omega)
        have hz7 := hs7.size
        clear hop hpost hD7 hs7 hF7 hnw6 hnx6
        go_wp2_with (go_at_call 20; refine stopAt ?_)
        unfold Hid
        refine hpow.mono ?_
        rintro e w8 ⟨rfl, hD8, hs8⟩
        have HS8 : Hid (Same (fun _ => True) w w8) := Lib.hid (HS7.out.trans' hs8 fun q hq _ => by constructor <;> omega)
        have hnw8 := Lib.hid (hnw7.out.keep (hs8.mono fun q hq hh => by have hh : B0 ≤ q := hh; omega))
        have hnx8 := Lib.hid (hnx7.out.keep (hs8.mono fun q hq hh => by have hh : B0 ≤ q := hh; omega))
        obtain ⟨q0, hq0⟩ := look_total (D2.2.1.power more).f0.b
        obtain ⟨q1, hq1⟩ := look_total (D2.2.1.power more).f1.b
        obtain ⟨d3, l3, hop3⟩ := HFIN2.out q0 q1 hq0 hq1
        have hlp := hlb.power more
        have hst2 : (D2.2.1.power more).steps ≤ 200 := by show D2.2.1.steps ≤ _; have := HKP.out.steps; omega
        have hop := wopen_any g r F7 (D2.2.1.power more) q0 q1 w8 hD8 ⟨⟨Int.le_refl _, show (-1 : Int) ≤ _ by decide⟩, by omega⟩ (by omega) hq0 hq1 (by have := hlp.f0; omega) (by have := hlp.f1; omega)
        rw [hop3] at hop
        have hz8 := hs8.size
        clear hpow hD8 hs8 hop3 hq0 hq1 hlp hnw7 hnx7 hlb hst2 hstA hlvA
        go_wp2_with (go_at_call 15; refine stopAt ?_)
        unfold Hid
        refine hop.mono ?_
        intro e wz hpost
        obtain ⟨A9, c9, F9, rfl, -, hby9, -, hs9⟩ := hpost.some
        have HSZ : Hid (Same (fun _ => True) w wz) := Lib.hid (HS8.out.trans' hs9 fun q hq _ => by constructor <;> omega)
        have HNWZ := Lib.hid (hnw8.out.keep (hs9.mono fun q hq hh => by have hh : B0 ≤ q := hh; omega))
        have HNXZ := Lib.hid (hnx8.out.keep (hs9.mono fun q hq hh => by have hh : B0 ≤ q := hh; omega))
        obtain ⟨RL, hRL⟩ : ∃ n, n = R.length := ⟨_, rfl⟩
        rw [← hRL] at hRl hby9 ⊢
        have HRL := Lib.hid hRL
        have HBYR := Lib.hid hby9
        clear hop hpost hs9 hby9 hRL hnw8 hnx8
        by_cases hin : safe ≤ RL ∧ RL ≤ LN
        · obtain ⟨hi1, hi2⟩ := hin
          have hd1 : decide (safe ≤ RL) = true := decide_eq_true hi1
          have hd2 : decide (RL ≤ LN) = true := decide_eq_true hi2
          have hi3 : RL ≤ cn := by omega
          have hrd := HNWZ.out.take (k := RL) (by rw [← HLN.out]; exact hi2)
          have HRD := Lib.hid hrd
          clear hrd
          by_cases hb : R = now.take RL
          · have hal := alike_any _ (.slice An RL cn) R (now.take RL) _ _ wz HBYR.out HRD.out (by rw [← HRL.out]; omega) (by rw [List.length_take]; omega)
            rw [show decide (R = (now.take RL)) = true from decide_eq_true hb] at hal
            go_wp2_with (go_at_call 16; refine stopAt ?_)
            unfold Hid
            refine hal.mono ?_
            rintro e wy ⟨rfl, hsy⟩
            clear hal
            go_wp2
            go_ret
            exact ⟨rfl, HSZ.out.trans hsy⟩
          · have hf : failed = true ∧ R = next := by
              rcases HACC.out with ⟨m, h1, h2, h3⟩ | h
              · exfalso
                apply hb
                have : RL = m := by rw [HRL.out, h3, List.length_take]; omega
                rw [this]; exact h3
              · exact h
            obtain ⟨rfl, hRn⟩ := hf
            have hal := alike_any _ (.slice An RL cn) R (now.take RL) _ _ wz HBYR.out HRD.out (by rw [← HRL.out]; omega) (by rw [List.length_take]; omega)
            rw [show decide (R = (now.take RL)) = false from decide_eq_false hb] at hal
            go_wp2_with (go_at_call 16; refine stopAt ?_)
            unfold Hid
            refine hal.mono ?_
            rintro e wy ⟨rfl, hsy⟩
            have HYY := Lib.hid hsy
            clear hal hsy hb
            have hb : R = next := hRn
            have hal2 := alike_any _ (.slice Ax LX cx) R next _ _ wy (HBYR.out.keep (HYY.out.mono fun _ _ _ => trivial)) (HNXZ.out.keep (HYY.out.mono fun _ _ _ => trivial)) (by rw [← HRL.out]; omega) (by rw [← HLX.out]; omega)
            rw [show decide (R = next) = true from decide_eq_true hb] at hal2
            have HRN := Lib.hid hb
            clear hb hRn
            go_wp2_with (go_at_call 16; refine stopAt ?_)
            unfold Hid
            refine hal2.mono ?_
            rintro e wx ⟨rfl, hsx⟩
            clear hal2
            go_wp2
            go_ret
            exact ⟨rfl, (HSZ.out.trans HYY.out).trans hsx⟩
        · have hf : failed = true ∧ R = next := by
            rcases HACC.out with ⟨m, h1, h2, h3⟩ | h
            · exfalso
              apply hin
              have : RL = m := by rw [HRL.out, h3, List.length_take]; omega
              rw [this]; exact ⟨h1, by rw [HLN.out]; exact h2⟩
            · exact h
          obtain ⟨rfl, hRn⟩ := hf
          have HYY := Lib.hid (Same.refl (fun _ => True) wz)
          by_cases hi1 : safe ≤ RL
          · have hd1 : decide (safe ≤ RL) = true := decide_eq_true hi1
            have hd2 : decide (RL ≤ LN) = false := decide_eq_false fun h => hin ⟨hi1, h⟩
            clear hin
            have hb : R = next := hRn
            have hal2 := alike_any _ (.slice Ax LX cx) R next _ _ wz (HBYR.out.keep (HYY.out.mono fun _ _ _ => trivial)) (HNXZ.out.keep (HYY.out.mono fun _ _ _ => trivial)) (by rw [← HRL.out]; omega) (by rw [← HLX.out]; omega)
            rw [show decide (R = next) = true from decide_eq_true hb] at hal2
            have HRN := Lib.hid hb
            clear hb hRn
            go_wp2_with (go_at_call 16; refine stopAt ?_)
            unfold Hid
            refine hal2.mono ?_
            rintro e wx ⟨rfl, hsx⟩
            clear hal2
            go_wp2
            go_ret
            exact ⟨rfl, (HSZ.out.trans HYY.out).trans hsx⟩
          · have hd1 : decide (safe ≤ RL) = false := decide_eq_false hi1
            clear hin
            have hb : R = next := hRn
            have hal2 := alike_any _ (.slice Ax LX cx) R next _ _ wz (HBYR.out.keep (HYY.out.mono fun _ _ _ => trivial)) (HNXZ.out.keep (HYY.out.mono fun _ _ _ => trivial)) (by rw [← HRL.out]; omega) (by rw [← HLX.out]; omega)
            rw [show decide (R = next) = true from decide_eq_true hb] at hal2
            have HRN := Lib.hid hb
            clear hb hRn
            go_wp2_with (go_at_call 16; refine stopAt ?_)
            unfold Hid
            refine hal2.mono ?_
            rintro e wx ⟨rfl, hsx⟩
            clear hal2
            go_wp2
            go_ret
            exact ⟨rfl, (HSZ.out.trans HYY.out).trans hsx⟩
end Go.Proofs.Ytpjinngngbifoaa
