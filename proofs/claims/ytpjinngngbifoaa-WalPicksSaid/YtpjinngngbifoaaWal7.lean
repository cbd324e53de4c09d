/-
  WalPicks: its walk.
-/
import Derived.Test.YtpjinngngbifoaaWal6
import Derived.Test.YtpjinngngbifoaaFrmQ
set_option linter.unusedSimpArgs false
set_option linter.unusedVariables false
namespace Go.Proofs.Ytpjinngngbifoaa
open Go.RowKit

theorem u64_small {n : Int} {q G : Nat} (hq : n % 1000 = (q : Int)) (hn : 0 ≤ n) (hG : G = 1 + q) : IntKind.u64.wrap (1 + (q : Int)) = (G : Int) := by
  have : (q : Int) < 1000 := by omega
  simp [IntKind.wrap, IntKind.bits, IntKind.signed]; omega
/-- An append that a guard lets run. -/
theorem wpList_appG {P : Program} {t e : TypeId} {size bytes : Nat} {z : Value} (T : SlT P t e size bytes z) {w : World} {ops : Array Oper} {rest : List Oper} {o : Oper} {a : Act} {Q : Exit → Act → World → Prop} {j d n : Nat} {b : Bool} (hg : o.guard = some (j, b)) (hj : (ops[j]?).bind (·.dst) = some d) (hn : a.tmps.size = n) (hd : d < n) (eg : a.eval (.tmp d) = .bool b) (s x : Operand)
    (ho : o.op = .call { callee := .builtin .append, args := #[s, x], argTypes := #[t, t] }) {B : Nat} {v : Value} {k : Nat} {xs news : List Value} {S : Nat → Prop} {A : Option Addr} {m c : Nat}
    (hs : a.eval s = v) (hx : a.eval x = .slice A m c) (hown : w.ownsRow B e size v k xs) (hr : Sl w S size A m news) (h1 : ∀ u ∈ news, u.oneCell' = true) (hB : B ≤ w.heap.size) (hlen : k + m ≤ 1000001) (hb : bytes ≤ 1000)
    (h : ∀ v' w', w'.ownsRow B e size v' (k + m) (xs ++ news) → Same (fun q => some q ≠ v.ownBlock) w w' → wpList P ops Q rest (a.put o.dst v') w') : wpList P ops Q (o :: rest) a w := by
  have hbb : (k + m) * bytes ≤ 140737488355328 := Nat.le_trans (Nat.mul_le_mul hlen hb) (by decide)
  obtain ⟨v', w', hrun, h2, h3⟩ := run_appL T w o.type B v k xs hown S A m c news hr h1 (by simp only [maxLen]; omega) hbb hB
  refine wpList_step fun K hK => ?_
  refine run_wanted hg hj hn hd eg ?_
  unfold Oper.wp execOp
  simp only [ho, resolve, invoke, builtin, Sem.run_bind, Sem.run_pure, Result.andThen_ok, List.map_toArray, List.map_cons, List.map_nil, hs, hx, hrun]
  exact hK _ _ (h v' w' h2 h3)
set_option maxRecDepth 100000 in
set_option maxHeartbeats 1000000 in
theorem walpicks_walk (va vb vt vm : Value) (x y : Int) (a b : List (List UInt8)) (tail more : List UInt8) (w : World) (hva : ByL w (· < w.heap.size) va a) (hvb : ByL w (· < w.heap.size) vb b) (hx : 0 ≤ x) (hy : 0 ≤ y) (hvt : By w (· < w.heap.size) vt tail) (hvm : By w (· < w.heap.size) vm more) :
    Calls Try.prog 3 #[va, vb, .int .u64 x, .int .u64 y, vt, vm] w (TrueP w) := by
  obtain ⟨A, ca, vs, rfl, hca, hma, -, -⟩ := id hva
  obtain ⟨B, cb, vs', rfl, hcb, hmb, -, -⟩ := id hvb
  obtain ⟨T, ct, rfl, hct, hmt, -⟩ := id hvt
  obtain ⟨U, cu, rfl, hcu, hmu, -⟩ := id hvm
  have hsa := fun W (h : Same (fun _ => True) w W) => sum_any _ a 2000 _ W (hva.keep (h.mono fun _ _ _ => trivial)) (by omega) (by omega)
  have hsb := fun W (h : Same (fun _ => True) w W) => sum_any _ b 2000 _ W (hvb.keep (h.mono fun _ _ _ => trivial)) (by omega) (by omega)
  unfold maxLen at hma hmb hmt hmu
  obtain ⟨N, hN⟩ : ∃ n, n = a.length := ⟨_, rfl⟩
  obtain ⟨M, hM⟩ : ∃ n, n = b.length := ⟨_, rfl⟩
  obtain ⟨TL, hTL⟩ : ∃ n, n = tail.length := ⟨_, rfl⟩
  obtain ⟨UL, hUL⟩ : ∃ n, n = more.length := ⟨_, rfl⟩
  rw [← hN] at hca hva hsa ⊢
  rw [← hM] at hcb hvb hsb ⊢
  rw [← hTL] at hct hvt ⊢
  rw [← hUL] at hcu hvm ⊢
  have HN := Lib.hid hN
  have HM := Lib.hid hM
  have HTL := Lib.hid hTL
  have HUL := Lib.hid hUL
  have HA := Lib.hid hva
  have HB := Lib.hid hvb
  have HT := Lib.hid hvt
  have HU := Lib.hid hvm
  have HSA := Lib.hid hsa
  have HSB := Lib.hid hsb
  clear hN hM hTL hUL hva hvb hvt hvm hsa hsb
  by_cases hc : 10 < N
  · go_enter Try.func3, Try.ntmps3
    go_wp2_with (first
      | (go_at_call 9; refine (walbegun_any _).mono ?_; rintro e w1 ⟨rfl, hs1⟩)
      | (go_at_call 10; have hA := HSA.out _ hs1; have hB := HSB.out _ hs1; (first | ((with_reducible refine hA.mono ?_)) | ((with_reducible refine hB.mono ?_))); rintro e w' ⟨rfl, rfl⟩; clear hA hB))
    go_ret
    exact ⟨rfl, hs1⟩
  have hl1 : N ≤ 10 := by omega
  clear hc
  by_cases hc : 10 < M
  · go_enter Try.func3, Try.ntmps3
    go_wp2_with (first
      | (go_at_call 9; refine (walbegun_any _).mono ?_; rintro e w1 ⟨rfl, hs1⟩)
      | (go_at_call 10; have hA := HSA.out _ hs1; have hB := HSB.out _ hs1; (first | ((with_reducible refine hA.mono ?_)) | ((with_reducible refine hB.mono ?_))); rintro e w' ⟨rfl, rfl⟩; clear hA hB))
    go_ret
    exact ⟨rfl, hs1⟩
  have hl2 : M ≤ 10 := by omega
  clear hc
  by_cases hc : 100 < TL
  · go_enter Try.func3, Try.ntmps3
    go_wp2_with (first
      | (go_at_call 9; refine (walbegun_any _).mono ?_; rintro e w1 ⟨rfl, hs1⟩)
      | (go_at_call 10; have hA := HSA.out _ hs1; have hB := HSB.out _ hs1; (first | ((with_reducible refine hA.mono ?_)) | ((with_reducible refine hB.mono ?_))); rintro e w' ⟨rfl, rfl⟩; clear hA hB))
    go_ret
    exact ⟨rfl, hs1⟩
  have hl3 : TL ≤ 100 := by omega
  clear hc
  by_cases hc : 100 < UL
  · go_enter Try.func3, Try.ntmps3
    go_wp2_with (first
      | (go_at_call 9; refine (walbegun_any _).mono ?_; rintro e w1 ⟨rfl, hs1⟩)
      | (go_at_call 10; have hA := HSA.out _ hs1; have hB := HSB.out _ hs1; (first | ((with_reducible refine hA.mono ?_)) | ((with_reducible refine hB.mono ?_))); rintro e w' ⟨rfl, rfl⟩; clear hA hB))
    go_ret
    exact ⟨rfl, hs1⟩
  have hl4 : UL ≤ 100 := by omega
  clear hc
  by_cases hc : 2000 < sumF 2000 a
  · go_enter Try.func3, Try.ntmps3
    go_wp2_with (first
      | (go_at_call 9; refine (walbegun_any _).mono ?_; rintro e w1 ⟨rfl, hs1⟩)
      | (go_at_call 10; have hA := HSA.out _ hs1; have hB := HSB.out _ hs1; (first | ((with_reducible refine hA.mono ?_)) | ((with_reducible refine hB.mono ?_))); rintro e w' ⟨rfl, rfl⟩; clear hA hB))
    go_ret
    exact ⟨rfl, hs1⟩
  have hl5 : sumF 2000 a ≤ 2000 := by omega
  clear hc
  by_cases hc : 2000 < sumF 2000 b
  · go_enter Try.func3, Try.ntmps3
    go_wp2_with (first
      | (go_at_call 9; refine (walbegun_any _).mono ?_; rintro e w1 ⟨rfl, hs1⟩)
      | (go_at_call 10; have hA := HSA.out _ hs1; have hB := HSB.out _ hs1; (first | ((with_reducible refine hA.mono ?_)) | ((with_reducible refine hB.mono ?_))); rintro e w' ⟨rfl, rfl⟩; clear hA hB))
    go_ret
    exact ⟨rfl, hs1⟩
  have hl6 : sumF 2000 b ≤ 2000 := by omega
  clear hc
  have h3 := sumFrom_small (most := 2000) (by omega) a 0 (by omega) (by unfold sumF at hl5; omega)
  have h4 := sumFrom_small (most := 2000) (by omega) b 0 (by omega) (by unfold sumF at hl6; omega)
  have HFA : Hid (a.flatten.length ≤ 2000) := Lib.hid (by have := h3.1; omega)
  have HFB : Hid (b.flatten.length ≤ 2000) := Lib.hid (by have := h4.1; omega)
  have HMA : Hid (Small a) := Lib.hid fun r hr => by have := mem_flat_le hr; have := HFA.out; omega
  have HMB : Hid (Small b) := Lib.hid fun r hr => by have := mem_flat_le hr; have := HFB.out; omega
  clear h3 h4
  obtain ⟨q, hq⟩ : ∃ q : Nat, x % 1000 = (q : Int) := ⟨(x % 1000).toNat, by omega⟩
  obtain ⟨q2, hq2⟩ : ∃ q : Nat, y % 1000 = (q : Int) := ⟨(y % 1000).toNat, by omega⟩
  have hqt : x.tmod 1000 = (q : Int) := by rw [Int.tmod_eq_emod_of_nonneg hx]; exact hq
  have hqt2 : y.tmod 1000 = (q2 : Int) := by rw [Int.tmod_eq_emod_of_nonneg hy]; exact hq2
  obtain ⟨G, hG⟩ : ∃ G, G = 1 + q := ⟨_, rfl⟩
  obtain ⟨H, hH⟩ : ∃ H, H = 1 + q2 := ⟨_, rfl⟩
  have hw1 := u64_small hq hx hG
  have hw2 := u64_small hq2 hy hH
  have hG1 : 1 ≤ G ∧ G ≤ 1000 := by omega
  have hH1 : 1 ≤ H ∧ H ≤ 1000 := by omega
  have HG := Lib.hid hG
  have HH := Lib.hid hH
  clear hG hH
  have hscan := fun W (h : Same (fun _ => True) w W) => rfscan_any _ tail _ W (HT.out.keep (h.mono fun _ _ _ => trivial)) (by rw [← HTL.out]; omega)
  have HSC := Lib.hid hscan
  clear hscan
  by_cases hgt : G < H
  · have hgd : decide (G < H) = true := decide_eq_true hgt
    go_enter Try.func3, Try.ntmps3
    go_wp2_with (first
      | (go_at_call 9; refine (walbegun_any _).mono ?_; rintro e w1 ⟨rfl, hs1⟩)
      | (go_at_call 10; have hA := HSA.out _ hs1; have hB := HSB.out _ hs1; (first | ((with_reducible refine hA.mono ?_)) | ((with_reducible refine hB.mono ?_))); rintro e w' ⟨rfl, rfl⟩; clear hA hB)
      | (go_at_call 11; refine stopAt ?_))
    unfold Hid
    refine (HSC.out _ hs1).mono ?_
    rintro e w2 ⟨u2, sl, sa, rfl, hsf, hrc, hs2⟩
    obtain ⟨A2, c2, rfl, -, -⟩ := hrc.form
    have HS2 := Lib.hid (hs1.trans hs2)
    clear hs1 hs2 hrc
    rcases sl with _ | ⟨s1, sl'⟩
    case cons =>
      have hpos : (0 : Int) < ((s1 :: sl').length : Int) := by simp
      go_wp2
      go_ret
      exact ⟨rfl, HS2.out⟩
    have hnx : (nextF tail 0).2.2 ≠ 0 := by
      have h0 := hsf.1.same .nil rfl
      have h1 := hsf.2
      rw [h0.2] at h1
      exact h1
    have HNX := Lib.hid hnx
    clear hnx hsf
    go_wp2_with (go_at_call 12; refine (dnew_any _).mono ?_; rintro e w3 ⟨g, r, rfl, hg, hr, hD0, hs3⟩)
    have hgr : w.heap.size ≤ g ∧ w.heap.size ≤ r := by have := HS2.out.size; omega
    have HS3 := Lib.hid (HS2.out.trans hs3)
    have HD0 := Lib.hid hD0
    clear hs3 hg hr hD0
    have hwh := whole_any G (.slice A N ca) (.slice T TL ct) a tail _ _ w3 (by omega) (HA.out.keep (HS3.out.mono fun _ _ _ => trivial)) (HT.out.keep (HS3.out.mono fun _ _ _ => trivial)) (by rw [← HN.out]; omega) (by have := HFA.out; rw [fileW_len, ← HN.out]; omega) (by rw [← HTL.out]; omega)
    go_wp2_with (go_at_call 14; refine stopAt ?_)
    unfold Hid
    refine hwh.mono ?_
    rintro e w4 ⟨u4, rfl, hu4, hs4⟩
    obtain ⟨A4, c4, rfl, -, -⟩ := hu4.form
    have HS4 := Lib.hid (HS3.out.trans hs4)
    clear hwh
    have hb0l : (fileW G a ++ tail).length ≤ 2400 := by have := HFA.out; rw [List.length_append, fileW_len, ← HN.out, ← HTL.out]; omega
    have hap := dappend_any g r _ _ DiskM.new 0 _ (fileW G a ++ tail) w4 (HD0.out.keepAll hs4) ⟨by decide, by decide⟩ hu4.by_ (by show 0 + _ ≤ _; omega)
    rw [hand_eq] at hap
    obtain ⟨B0, hB0⟩ : ∃ B0, B0 = fileW G a ++ tail := ⟨_, rfl⟩
    rw [← hB0] at hap hu4 hb0l ⊢
    have HB0 := Lib.hid hB0
    clear hs4 hB0
    go_wp2_with (go_at_call 13; refine stopAt ?_)
    unfold Hid
    refine hap.mono ?_
    rintro e w5 ⟨rfl, ⟨F5, hF5, hD5⟩, hs5⟩
    have HS5 : Hid (Same (fun _ => True) w w5) := Lib.hid (HS4.out.trans' hs5 fun k hk _ => by constructor <;> omega)
    have HD5 := Lib.hid hD5
    clear hap hs5 hu4 hF5 hD5
    have hwh := whole_any H (.slice B M cb) (.slice T TL ct) b tail _ _ w5 (by omega) (HB.out.keep (HS5.out.mono fun _ _ _ => trivial)) (HT.out.keep (HS5.out.mono fun _ _ _ => trivial)) (by rw [← HM.out]; omega) (by have := HFB.out; rw [fileW_len, ← HM.out]; omega) (by rw [← HTL.out]; omega)
    go_wp2_with (go_at_call 14; refine stopAt ?_)
    unfold Hid
    refine hwh.mono ?_
    rintro e w6 ⟨u6, rfl, hu6, hs6⟩
    obtain ⟨A6, c6, rfl, -, -⟩ := hu6.form
    have HS6 := Lib.hid (HS5.out.trans hs6)
    clear hwh
    have hb1l : (fileW H b ++ tail).length ≤ 2400 := by have := HFB.out; rw [List.length_append, fileW_len, ← HM.out, ← HTL.out]; omega
    have hap := dappend_any g r _ _ (handD B0) 1 _ (fileW H b ++ tail) w6 (HD5.out.keepAll hs6) ⟨⟨Int.le_refl _, show (-1 : Int) ≤ _ by decide⟩, show 1 < _ by decide⟩ hu6.by_ (by show 0 + _ ≤ _; omega)
    rw [hand2_eq] at hap
    obtain ⟨B1, hB1⟩ : ∃ B1, B1 = fileW H b ++ tail := ⟨_, rfl⟩
    rw [← hB1] at hap hu6 hb1l ⊢
    have HB1 := Lib.hid hB1
    clear hs6 hB1
    go_wp2_with (go_at_call 13; refine stopAt ?_)
    unfold Hid
    refine hap.mono ?_
    rintro e w7 ⟨rfl, ⟨F7, hF7, hD7⟩, hs7⟩
    have HS7 : Hid (Same (fun _ => True) w w7) := Lib.hid (HS6.out.trans' hs7 fun k hk _ => by constructor <;> omega)
    obtain ⟨d, l, gx, hop0, hJ, hgx, hlow⟩ := picks_open (n := 3000) (tail := tail) hG1 hH1 HMA.out HMB.out (by have := HFA.out; rw [← HN.out, ← HTL.out]; omega) (by have := HFB.out; rw [← HM.out, ← HTL.out]; omega)
    have hR : pickR G H a b = b := if_pos hgt
    rw [hR, ← HB0.out, ← HB1.out] at hop0
    rw [hR] at hJ
    have hlk0 : LookF B0 (some ⟨G, a, decide (0 < tail.length)⟩) := by rw [HB0.out]; exact look_tailed (by omega) a HMA.out tail HNX.out
    have hlk1 : LookF B1 (some ⟨H, b, decide (0 < tail.length)⟩) := by rw [HB1.out]; exact look_tailed (by omega) b HMB.out tail HNX.out
    have hop := wopen_any g r F7 (hand2 B0 B1) _ _ w7 hD7 ⟨⟨Int.le_refl _, show (-1 : Int) ≤ _ by decide⟩, show 2 < _ by decide⟩ (show 2 + 3 < _ by decide) hlk0 hlk1 (by show B0.length ≤ _; omega) (by show B1.length ≤ _; omega)
    rw [hop0] at hop
    have HJ := Lib.hid hJ
    have HLO := Lib.hid hlow
    clear hap hs7 hu6 hF7 hD7 hop0 hJ hlow hlk0 hlk1 hR
    go_wp2_with (go_at_call 15; refine stopAt ?_)
    unfold Hid
    refine hop.mono ?_
    intro e w8 hpost
    obtain ⟨A8, c8, F8, rfl, hF8, hby8, hL8, hs8⟩ := hpost.some
    obtain ⟨p, hp⟩ : ∃ p, p = w7.heap.size := ⟨_, rfl⟩
    rw [← hp] at hL8 hby8 ⊢
    have hpw : w.heap.size ≤ p := by have := HS7.out.size; omega
    have HS8 : Hid (Same (fun _ => True) w w8) := Lib.hid (HS7.out.trans' hs8 fun k hk _ => by constructor <;> omega)
    have HL8 := Lib.hid hL8
    have HBY8 := Lib.hid hby8
    have hT := texts_any _ b _ w8 (HB.out.keep (HS8.out.mono fun _ _ _ => trivial)) (by rw [← HM.out]; omega)
    clear hop hpost hs8 hF8 hL8 hby8 hp
    rw [← HM.out]
    go_wp2_with (go_at_call 17; refine stopAt ?_)
    unfold Hid
    refine hT.mono ?_
    rintro e w9 ⟨u9, rfl, hu9, hs9⟩
    have hK := alike_any _ u9 b b _ _ w9 (HBY8.out.keep (hs9.mono fun _ _ _ => trivial)) hu9.rd (by rw [← HM.out]; omega) (by rw [← HM.out]; omega)
    obtain ⟨A9, c9, rfl, -, -⟩ := OwnS.form hu9
    rw [show decide (b = b) = true by simp] at hK
    rw [← HM.out] at hK ⊢
    have HS9 := Lib.hid (HS8.out.trans hs9)
    have HL9 := Lib.hid (HL8.out.keepAll hs9)
    clear hT hu9 hs9
    go_wp2_with (go_at_call 16; refine stopAt ?_)
    unfold Hid
    refine hK.mono ?_
    rintro e w10 ⟨rfl, hs10⟩
    have HS10 := Lib.hid (HS9.out.trans hs10)
    have HL10 := Lib.hid (HL9.out.keepAll hs10)
    clear hK hs10
    obtain ⟨d1, l1, d2, ha1, hJ1, hy2, hJ2, hok2, hre⟩ := picks_on HJ.out HLO.out hgx more (by rw [← HUL.out]; omega) (by have := HFB.out; rw [← HM.out, ← HUL.out]; omega)
    have hsz := HJ.out.size
    have happ := wappend_any p g r F8 _ d l _ more w10 HL10.out (HJ.out.fit (by omega)) (HU.out.keep (HS10.out.mono fun _ _ _ => trivial)) (by rw [← HUL.out]; omega) (by rw [hsz, ← HM.out, ← HUL.out]; have := HFB.out; omega) (HJ.out.wfit (by omega))
    rw [ha1] at happ
    have HY2 := Lib.hid hy2
    have HJ1 := Lib.hid hJ1
    have HJ2 := Lib.hid hJ2
    have HRE := Lib.hid hre
    have HOK := Lib.hid hok2
    clear ha1 hy2 hJ1 hJ2 hre hok2 hsz
    go_wp2_with (go_at_call 18; refine stopAt ?_)
    unfold Hid
    refine happ.mono ?_
    rintro e w11 ⟨rfl, ⟨F11, hF11, hL11⟩, hs11⟩
    have HS11 : Hid (Same (fun _ => True) w w11) := Lib.hid (HS10.out.trans' hs11 fun k hk _ => ⟨by omega, by omega, by omega⟩)
    have hsy := wsync_any p g r F11 d1 l1 w11 hL11 (HJ1.out.fit (by omega))
    rw [HY2.out] at hsy
    clear happ hs11 hF11 hL11
    go_wp2_with (go_at_call 19; refine stopAt ?_)
    unfold Hid
    refine hsy.mono ?_
    rintro e w12 ⟨rfl, ⟨F12, hF12, hL12⟩, hs12⟩
    have HS12 : Hid (Same (fun _ => True) w w12) := Lib.hid (HS11.out.trans' hs12 fun k hk _ => ⟨by omega, by omega, by omega⟩)
    have hpow := dpower_any g r F12 (fun _ => False) d2 [] (.slice none 0 0) w12 hL12.disk HOK.out (ints_nil _ _) (fun k h => h.elim) (by have h0 := HJ2.out.len.f0; have h1 := HJ2.out.len.f1; omega) (by rw [HJ2.out.lives]; omega)
    clear hsy hs12 hF12 hL12
    go_wp2_with (go_at_call 20; refine stopAt ?_)
    unfold Hid
    refine hpow.mono ?_
    rintro e w13 ⟨rfl, hD13, hs13⟩
    have HS13 : Hid (Same (fun _ => True) w w13) := Lib.hid (HS12.out.trans' hs13 fun k hk _ => by constructor <;> omega)
    obtain ⟨m0, hm0⟩ := look_total (d2.power []).f0.b
    obtain ⟨m1, hm1⟩ := look_total (d2.power []).f1.b
    obtain ⟨d3, l3, hop3⟩ := HRE.out m0 m1 hm0 hm1
    have hlp := HJ2.out.len.power []
    have hop := wopen_any g r _ (d2.power []) m0 m1 _ hD13 ⟨⟨Int.le_refl _, show (-1 : Int) ≤ _ by decide⟩, by show d2.steps < _; have := HJ2.out.steps; omega⟩ (by show d2.steps + 3 < _; have := HJ2.out.steps; omega) hm0 hm1 (by have := hlp.f0; omega) (by have := hlp.f1; omega)
    rw [hop3] at hop
    clear hpow hs13 hD13 hop3 hm0 hm1 hlp
    go_wp2_with (go_at_call 15; refine stopAt ?_)
    unfold Hid
    refine hop.mono ?_
    intro e w14 hpost
    obtain ⟨A14, c14, F14, rfl, -, hby14, -, hs14⟩ := hpost.some
    have HS14 : Hid (Same (fun _ => True) w w14) := Lib.hid (HS13.out.trans' hs14 fun k hk _ => by constructor <;> omega)
    have HBY14 := Lib.hid hby14
    have hal : (b ++ [more]).length = M + 1 := by rw [List.length_append, ← HM.out]; rfl
    rw [hal] at hby14
    have HBY14 := Lib.hid hby14
    clear hop hpost hs14 hby14
    rw [hal]
    clear hal
    go_wp2
    refine wp_region_tail_d (L := [.eq (.int .i64 0), .eq (.bool true), .eq (.bool true), .eq (.slice A14 (M + 1) c14), .eq (.slice B M cb), .of ⟨fun v w => OwnS w w14.heap.size v b, fun _ _ _ h k => h.keepAll k⟩, .eq (.slice U UL cu), .eq (.string (str more)), .of ⟨fun v w => ∃ q, v = .slice (some ⟨q, 0, none⟩) 1 1 ∧ Row w q 9 [strV more], fun _ _ _ ⟨q, h1, h2⟩ k => ⟨q, h1, h2.keep k trivial⟩⟩]) 9 3 (by omega) (by kernel_rfl) (by kernel_rfl) rfl rfl rfl rfl rfl rfl ?_ ?_ ?_
    · refine ⟨?_, ?_, ?_, ?_, ?_, ?_, ?_, ?_, ?_, trivial⟩
      · intro ac wc hs hd hz hf hw K hK
        have e0 : ac.eval (.tmp 18) = (.int .i64 0) := hf 18 rfl
        clear hd hz hf hw
        simp only [Region.wanted, if_true, Oper.wp, execOp, resolve, List.map_toArray, List.map_cons, List.map_nil, Option.map_some, Option.map_none, e0]
        go_simp
        exact hK _ _ rfl (Same.refl _ _)
      · intro ac wc hs hd hz hf hw K hK
        have e0 : ac.eval (.tmp 122) = (.int .i64 0) := hw 0 rfl
        clear hd hz hf hw
        simp only [Region.wanted, if_true, Oper.wp, execOp, resolve, List.map_toArray, List.map_cons, List.map_nil, Option.map_some, Option.map_none, e0]
        go_simp
        exact hK _ _ rfl (Same.refl _ _)
      · intro ac wc hs hd hz hf hw K hK
        have e0 : ac.eval (.tmp 123) = (.bool true) := hw 1 rfl
        clear hd hz hf hw
        simp only [Region.wanted, if_true, Oper.wp, execOp, resolve, List.map_toArray, List.map_cons, List.map_nil, Option.map_some, Option.map_none, e0]
        go_simp
        exact hK _ _ rfl (Same.refl _ _)
      · intro ac wc hs hd hz hf hw K hK
        have eg : ac.eval (.tmp 124) = .bool true := hw 2 rfl
        refine run_wanted (j := 2) (d := 124) (b := true) rfl rfl hz (of_decide_eq_true rfl) eg ?_
        clear eg
        have e0 : ac.eval (.tmp 21) = (.slice A14 (M + 1) c14) := hf 21 rfl
        clear hd hz hf hw
        simp only [Oper.wp, execOp, resolve, List.map_toArray, List.map_cons, List.map_nil, Option.map_some, Option.map_none, e0]
        go_simp
        exact hK _ _ rfl (Same.refl _ _)
      · intro ac wc hs hd hz hf hw K hK
        have eg : ac.eval (.tmp 124) = .bool true := hw 2 rfl
        refine run_wanted (j := 2) (d := 124) (b := true) rfl rfl hz (of_decide_eq_true rfl) eg ?_
        clear eg
        have e0 : ac.eval (.tmp 19) = (.slice B M cb) := hf 19 rfl
        clear hd hz hf hw
        simp only [Oper.wp, execOp, resolve, List.map_toArray, List.map_cons, List.map_nil, Option.map_some, Option.map_none, e0]
        go_simp
        exact hK _ _ rfl (Same.refl _ _)
      · intro ac wc hs hd hz hf hw K hK
        have eg : ac.eval (.tmp 124) = .bool true := hw 2 rfl
        refine run_wanted (j := 2) (d := 124) (b := true) rfl rfl hz (of_decide_eq_true rfl) eg ?_
        clear eg
        have e0 : ac.eval (.tmp 126) = (.slice B M cb) := hw 4 rfl
        clear hd hz hf hw
        simp only [Oper.wp, execOp, resolve, List.map_toArray, List.map_cons, List.map_nil, Option.map_some, Option.map_none, e0]
        go_simp
        refine (texts_any _ b _ wc (HB.out.keep ((HS14.out.trans hs).mono fun _ _ _ => trivial)) (by rw [← HM.out]; omega)).mono ?_
        rintro e wd ⟨ut, rfl, hut, hst⟩
        exact hK _ _ (OwnS.lower hut hs.size) hst
      · intro ac wc hs hd hz hf hw K hK
        have eg : ac.eval (.tmp 124) = .bool true := hw 2 rfl
        refine run_wanted (j := 2) (d := 124) (b := true) rfl rfl hz (of_decide_eq_true rfl) eg ?_
        clear eg
        have e0 : ac.eval (.tmp 5) = (.slice U UL cu) := hf 5 rfl
        clear hd hz hf hw
        simp only [Oper.wp, execOp, resolve, List.map_toArray, List.map_cons, List.map_nil, Option.map_some, Option.map_none, e0]
        go_simp
        exact hK _ _ rfl (Same.refl _ _)
      · intro ac wc hs hd hz hf hw K hK
        have eg : ac.eval (.tmp 124) = .bool true := hw 2 rfl
        refine run_wanted (j := 2) (d := 124) (b := true) rfl rfl hz (of_decide_eq_true rfl) eg ?_
        clear eg
        have e0 : ac.eval (.tmp 128) = (.slice U UL cu) := hw 6 rfl
        have hcv := conv_by (HU.out.keep ((HS14.out.trans hs).mono fun _ _ _ => trivial))
        clear hd hz hf hw
        simp only [Oper.wp, execOp, resolve, List.map_toArray, List.map_cons, List.map_nil, Option.map_some, Option.map_none, e0]
        go_simp
        exact hK _ _ rfl (Same.refl _ _)
      · intro ac wc hs hd hz hf hw K hK
        have eg : ac.eval (.tmp 124) = .bool true := hw 2 rfl
        refine run_wanted (j := 2) (d := 124) (b := true) rfl rfl hz (of_decide_eq_true rfl) eg ?_
        clear eg
        have e0 : ac.eval (.tmp 129) = (.string (str more)) := hw 7 rfl
        clear hd hz hf hw
        simp only [Oper.wp, execOp, resolve, List.map_toArray, List.map_cons, List.map_nil, Option.map_some, Option.map_none, e0]
        go_simp
        exact hK _ _ ⟨_, rfl, Row.new _ _ _⟩ ((Same.refl _ _).alloc _)
    · intro vs wR hvl hvp hsR
      rcases vs with _ | ⟨z0, _ | ⟨z1, _ | ⟨z2, _ | ⟨z3, _ | ⟨z4, _ | ⟨z5, _ | ⟨z6, _ | ⟨z7, _ | ⟨z8, _ | ⟨zz, zr⟩⟩⟩⟩⟩⟩⟩⟩⟩⟩
      rotate_right 1
      · simp at hvl
      · simp at hvl
      · simp at hvl
      · simp at hvl
      · simp at hvl
      · simp at hvl
      · simp at hvl
      · simp at hvl
      · simp at hvl
      · simp at hvl
      · obtain rfl : z0 = (.int .i64 0) := hvp 0 (by omega)
        obtain rfl : z1 = (.bool true) := hvp 1 (by omega)
        obtain rfl : z2 = (.bool true) := hvp 2 (by omega)
        obtain rfl : z3 = (.slice A14 (M + 1) c14) := hvp 3 (by omega)
        obtain rfl : z4 = (.slice B M cb) := hvp 4 (by omega)
        have hxt : (⟨fun v w => OwnS w w14.heap.size v b, fun _ _ _ h k => h.keepAll k⟩ : SP).p z5 wR := hvp 5 (by omega)
        obtain rfl : z6 = (.slice U UL cu) := hvp 6 (by omega)
        obtain rfl : z7 = (.string (str more)) := hvp 7 (by omega)
        have hxb : (⟨fun v w => ∃ q, v = .slice (some ⟨q, 0, none⟩) 1 1 ∧ Row w q 9 [strV more], fun _ _ _ ⟨q, h1, h2⟩ k => ⟨q, h1, h2.keep k trivial⟩⟩ : SP).p z8 wR := hvp 8 (by omega)
        clear hvl hvp
        simp only [putAll, Act.put, List.setIfInBounds_toArray, List.set_cons_succ, List.set_cons_zero, List.take_succ_cons, List.take_zero, List.drop_succ_cons, List.drop_zero, List.eraseIdx_cons_succ, List.eraseIdx_cons_zero]
        obtain ⟨q0, rfl, hrow⟩ := hxb
        obtain ⟨A15, c15, rfl, -, -⟩ := OwnS.form hxt
        have hsl1 : Sl wR (fun _ => True) 1 (some ⟨q0, 0, none⟩) 1 [strV more] := by
          have := hrow.sl (size := 1) (off := 0) (n := 1) (by simp)
          exact (by simpa using this : Sl wR (fun k => k = q0) 1 (some ⟨q0, 0, none⟩) 1 [strV more]).mono fun _ _ _ => trivial
        go_wp2_with (at_builtin; refine stopAt ?_)
        unfold Hid
        refine wpList_appG TSt rfl rfl rfl (of_decide_eq_true rfl) rfl (.tmp 127) (.tmp 130) rfl (B := w14.heap.size) (k := b.length) (xs := b.map strV) rfl rfl hxt hsl1 (by simp [Value.oneCell']) (by have := hsR.size; omega) (by rw [← HM.out]; omega) (by omega) ?_
        intro v16 w16 hown16 hs16
        have hown : OwnS w16 w14.heap.size v16 (b ++ [more]) := by
          unfold OwnS
          rw [List.length_append, List.map_append]
          exact hown16
        have HS16 : Hid (Same (fun _ => True) w14 w16) := Lib.hid (hsR.trans' hs16 fun k hk _ e => by have := own_ge hxt e; omega)
        have hal : (b ++ [more]).length = M + 1 := by rw [List.length_append, ← HM.out]; rfl
        have HK := alike_any _ v16 (b ++ [more]) (b ++ [more]) _ _ w16 (HBY14.out.keep (HS16.out.mono fun _ _ _ => trivial)) hown.rd (by rw [hal]; omega) (by rw [hal]; omega)
        rw [show decide (b ++ [more] = b ++ [more]) = true by simp] at HK
        obtain ⟨A17, c17, rfl, -, -⟩ := OwnS.form hown
        rw [hal] at HK ⊢
        clear hal hown hown16 hs16 hsl1 hrow hxt
        go_wp2_with (go_at_call 16; refine stopAt ?_)
        unfold Hid
        refine HK.mono ?_
        rintro e w17 ⟨rfl, hs17⟩
        clear HK
        go_wp2
        go_ret
        exact ⟨rfl, (HS14.out.trans HS16.out).trans hs17⟩
    · intro vs wR hvl hvp hsR
      rcases vs with _ | ⟨z0, _ | ⟨z1, _ | ⟨z2, _ | ⟨z4, _ | ⟨z5, _ | ⟨z6, _ | ⟨z7, _ | ⟨z8, _ | ⟨zz, zr⟩⟩⟩⟩⟩⟩⟩⟩⟩
      rotate_right 1
      · simp at hvl
      · simp at hvl
      · simp at hvl
      · simp at hvl
      · simp at hvl
      · simp at hvl
      · simp at hvl
      · simp at hvl
      · simp at hvl
      · obtain rfl : z0 = (.int .i64 0) := hvp 0 (by omega)
        obtain rfl : z1 = (.bool true) := hvp 1 (by omega)
        obtain rfl : z2 = (.bool true) := hvp 2 (by omega)
        obtain rfl : z4 = (.slice B M cb) := hvp 3 (by omega)
        have hxt : (⟨fun v w => OwnS w w14.heap.size v b, fun _ _ _ h k => h.keepAll k⟩ : SP).p z5 wR := hvp 4 (by omega)
        obtain rfl : z6 = (.slice U UL cu) := hvp 5 (by omega)
        obtain rfl : z7 = (.string (str more)) := hvp 6 (by omega)
        have hxb : (⟨fun v w => ∃ q, v = .slice (some ⟨q, 0, none⟩) 1 1 ∧ Row w q 9 [strV more], fun _ _ _ ⟨q, h1, h2⟩ k => ⟨q, h1, h2.keep k trivial⟩⟩ : SP).p z8 wR := hvp 7 (by omega)
        clear hvl hvp
        simp only [putAll, Act.put, List.setIfInBounds_toArray, List.set_cons_succ, List.set_cons_zero, List.take_succ_cons, List.take_zero, List.drop_succ_cons, List.drop_zero, List.eraseIdx_cons_succ, List.eraseIdx_cons_zero]
        obtain ⟨q0, rfl, hrow⟩ := hxb
        obtain ⟨A15, c15, rfl, -, -⟩ := OwnS.form hxt
        have hsl1 : Sl wR (fun _ => True) 1 (some ⟨q0, 0, none⟩) 1 [strV more] := by
          have := hrow.sl (size := 1) (off := 0) (n := 1) (by simp)
          exact (by simpa using this : Sl wR (fun k => k = q0) 1 (some ⟨q0, 0, none⟩) 1 [strV more]).mono fun _ _ _ => trivial
        go_wp2_with (at_builtin; refine stopAt ?_)
        unfold Hid
        refine wpList_appG TSt rfl rfl rfl (of_decide_eq_true rfl) rfl (.tmp 127) (.tmp 130) rfl (B := w14.heap.size) (k := b.length) (xs := b.map strV) rfl rfl hxt hsl1 (by simp [Value.oneCell']) (by have := hsR.size; omega) (by rw [← HM.out]; omega) (by omega) ?_
        intro v16 w16 hown16 hs16
        have hown : OwnS w16 w14.heap.size v16 (b ++ [more]) := by
          unfold OwnS
          rw [List.length_append, List.map_append]
          exact hown16
        have HS16 : Hid (Same (fun _ => True) w14 w16) := Lib.hid (hsR.trans' hs16 fun k hk _ e => by have := own_ge hxt e; omega)
        have hal : (b ++ [more]).length = M + 1 := by rw [List.length_append, ← HM.out]; rfl
        have HK := alike_any _ v16 (b ++ [more]) (b ++ [more]) _ _ w16 (HBY14.out.keep (HS16.out.mono fun _ _ _ => trivial)) hown.rd (by rw [hal]; omega) (by rw [hal]; omega)
        rw [show decide (b ++ [more] = b ++ [more]) = true by simp] at HK
        obtain ⟨A17, c17, rfl, -, -⟩ := OwnS.form hown
        rw [hal] at HK ⊢
        clear hal hown hown16 hs16 hsl1 hrow hxt
        go_wp2_with (go_at_call 16; refine stopAt ?_)
        unfold Hid
        refine HK.mono ?_
        rintro e w17 ⟨rfl, hs17⟩
        clear HK
        go_wp2
        go_ret
        exact ⟨rfl, (HS14.out.trans HS16.out).trans hs17⟩
  · have hgd : decide (G < H) = false := decide_eq_false hgt
    go_enter Try.func3, Try.ntmps3
    go_wp2_with (first
      | (go_at_call 9; refine (walbegun_any _).mono ?_; rintro e w1 ⟨rfl, hs1⟩)
      | (go_at_call 10; have hA := HSA.out _ hs1; have hB := HSB.out _ hs1; (first | ((with_reducible refine hA.mono ?_)) | ((with_reducible refine hB.mono ?_))); rintro e w' ⟨rfl, rfl⟩; clear hA hB)
      | (go_at_call 11; refine stopAt ?_))
    unfold Hid
    refine (HSC.out _ hs1).mono ?_
    rintro e w2 ⟨u2, sl, sa, rfl, hsf, hrc, hs2⟩
    obtain ⟨A2, c2, rfl, -, -⟩ := hrc.form
    have HS2 := Lib.hid (hs1.trans hs2)
    clear hs1 hs2 hrc
    rcases sl with _ | ⟨s1, sl'⟩
    case cons =>
      have hpos : (0 : Int) < ((s1 :: sl').length : Int) := by simp
      go_wp2
      go_ret
      exact ⟨rfl, HS2.out⟩
    have hnx : (nextF tail 0).2.2 ≠ 0 := by
      have h0 := hsf.1.same .nil rfl
      have h1 := hsf.2
      rw [h0.2] at h1
      exact h1
    have HNX := Lib.hid hnx
    clear hnx hsf
    go_wp2_with (go_at_call 12; refine (dnew_any _).mono ?_; rintro e w3 ⟨g, r, rfl, hg, hr, hD0, hs3⟩)
    have hgr : w.heap.size ≤ g ∧ w.heap.size ≤ r := by have := HS2.out.size; omega
    have HS3 := Lib.hid (HS2.out.trans hs3)
    have HD0 := Lib.hid hD0
    clear hs3 hg hr hD0
    have hwh := whole_any G (.slice A N ca) (.slice T TL ct) a tail _ _ w3 (by omega) (HA.out.keep (HS3.out.mono fun _ _ _ => trivial)) (HT.out.keep (HS3.out.mono fun _ _ _ => trivial)) (by rw [← HN.out]; omega) (by have := HFA.out; rw [fileW_len, ← HN.out]; omega) (by rw [← HTL.out]; omega)
    go_wp2_with (go_at_call 14; refine stopAt ?_)
    unfold Hid
    refine hwh.mono ?_
    rintro e w4 ⟨u4, rfl, hu4, hs4⟩
    obtain ⟨A4, c4, rfl, -, -⟩ := hu4.form
    have HS4 := Lib.hid (HS3.out.trans hs4)
    clear hwh
    have hb0l : (fileW G a ++ tail).length ≤ 2400 := by have := HFA.out; rw [List.length_append, fileW_len, ← HN.out, ← HTL.out]; omega
    have hap := dappend_any g r _ _ DiskM.new 0 _ (fileW G a ++ tail) w4 (HD0.out.keepAll hs4) ⟨by decide, by decide⟩ hu4.by_ (by show 0 + _ ≤ _; omega)
    rw [hand_eq] at hap
    obtain ⟨B0, hB0⟩ : ∃ B0, B0 = fileW G a ++ tail := ⟨_, rfl⟩
    rw [← hB0] at hap hu4 hb0l ⊢
    have HB0 := Lib.hid hB0
    clear hs4 hB0
    go_wp2_with (go_at_call 13; refine stopAt ?_)
    unfold Hid
    refine hap.mono ?_
    rintro e w5 ⟨rfl, ⟨F5, hF5, hD5⟩, hs5⟩
    have HS5 : Hid (Same (fun _ => True) w w5) := Lib.hid (HS4.out.trans' hs5 fun k hk _ => by constructor <;> omega)
    have HD5 := Lib.hid hD5
    clear hap hs5 hu4 hF5 hD5
    have hwh := whole_any H (.slice B M cb) (.slice T TL ct) b tail _ _ w5 (by omega) (HB.out.keep (HS5.out.mono fun _ _ _ => trivial)) (HT.out.keep (HS5.out.mono fun _ _ _ => trivial)) (by rw [← HM.out]; omega) (by have := HFB.out; rw [fileW_len, ← HM.out]; omega) (by rw [← HTL.out]; omega)
    go_wp2_with (go_at_call 14; refine stopAt ?_)
    unfold Hid
    refine hwh.mono ?_
    rintro e w6 ⟨u6, rfl, hu6, hs6⟩
    obtain ⟨A6, c6, rfl, -, -⟩ := hu6.form
    have HS6 := Lib.hid (HS5.out.trans hs6)
    clear hwh
    have hb1l : (fileW H b ++ tail).length ≤ 2400 := by have := HFB.out; rw [List.length_append, fileW_len, ← HM.out, ← HTL.out]; omega
    have hap := dappend_any g r _ _ (handD B0) 1 _ (fileW H b ++ tail) w6 (HD5.out.keepAll hs6) ⟨⟨Int.le_refl _, show (-1 : Int) ≤ _ by decide⟩, show 1 < _ by decide⟩ hu6.by_ (by show 0 + _ ≤ _; omega)
    rw [hand2_eq] at hap
    obtain ⟨B1, hB1⟩ : ∃ B1, B1 = fileW H b ++ tail := ⟨_, rfl⟩
    rw [← hB1] at hap hu6 hb1l ⊢
    have HB1 := Lib.hid hB1
    clear hs6 hB1
    go_wp2_with (go_at_call 13; refine stopAt ?_)
    unfold Hid
    refine hap.mono ?_
    rintro e w7 ⟨rfl, ⟨F7, hF7, hD7⟩, hs7⟩
    have HS7 : Hid (Same (fun _ => True) w w7) := Lib.hid (HS6.out.trans' hs7 fun k hk _ => by constructor <;> omega)
    obtain ⟨d, l, gx, hop0, hJ, hgx, hlow⟩ := picks_open (n := 3000) (tail := tail) hG1 hH1 HMA.out HMB.out (by have := HFA.out; rw [← HN.out, ← HTL.out]; omega) (by have := HFB.out; rw [← HM.out, ← HTL.out]; omega)
    have hR : pickR G H a b = a := if_neg hgt
    rw [hR, ← HB0.out, ← HB1.out] at hop0
    rw [hR] at hJ
    have hlk0 : LookF B0 (some ⟨G, a, decide (0 < tail.length)⟩) := by rw [HB0.out]; exact look_tailed (by omega) a HMA.out tail HNX.out
    have hlk1 : LookF B1 (some ⟨H, b, decide (0 < tail.length)⟩) := by rw [HB1.out]; exact look_tailed (by omega) b HMB.out tail HNX.out
    have hop := wopen_any g r F7 (hand2 B0 B1) _ _ w7 hD7 ⟨⟨Int.le_refl _, show (-1 : Int) ≤ _ by decide⟩, show 2 < _ by decide⟩ (show 2 + 3 < _ by decide) hlk0 hlk1 (by show B0.length ≤ _; omega) (by show B1.length ≤ _; omega)
    rw [hop0] at hop
    have HJ := Lib.hid hJ
    have HLO := Lib.hid hlow
    clear hap hs7 hu6 hF7 hD7 hop0 hJ hlow hlk0 hlk1 hR
    go_wp2_with (go_at_call 15; refine stopAt ?_)
    unfold Hid
    refine hop.mono ?_
    intro e w8 hpost
    obtain ⟨A8, c8, F8, rfl, hF8, hby8, hL8, hs8⟩ := hpost.some
    obtain ⟨p, hp⟩ : ∃ p, p = w7.heap.size := ⟨_, rfl⟩
    rw [← hp] at hL8 hby8 ⊢
    have hpw : w.heap.size ≤ p := by have := HS7.out.size; omega
    have HS8 : Hid (Same (fun _ => True) w w8) := Lib.hid (HS7.out.trans' hs8 fun k hk _ => by constructor <;> omega)
    have HL8 := Lib.hid hL8
    have HBY8 := Lib.hid hby8
    have hT := texts_any _ a _ w8 (HA.out.keep (HS8.out.mono fun _ _ _ => trivial)) (by rw [← HN.out]; omega)
    clear hop hpost hs8 hF8 hL8 hby8 hp
    rw [← HN.out]
    go_wp2_with (go_at_call 17; refine stopAt ?_)
    unfold Hid
    refine hT.mono ?_
    rintro e w9 ⟨u9, rfl, hu9, hs9⟩
    have hK := alike_any _ u9 a a _ _ w9 (HBY8.out.keep (hs9.mono fun _ _ _ => trivial)) hu9.rd (by rw [← HN.out]; omega) (by rw [← HN.out]; omega)
    obtain ⟨A9, c9, rfl, -, -⟩ := OwnS.form hu9
    rw [show decide (a = a) = true by simp] at hK
    rw [← HN.out] at hK ⊢
    have HS9 := Lib.hid (HS8.out.trans hs9)
    have HL9 := Lib.hid (HL8.out.keepAll hs9)
    clear hT hu9 hs9
    go_wp2_with (go_at_call 16; refine stopAt ?_)
    unfold Hid
    refine hK.mono ?_
    rintro e w10 ⟨rfl, hs10⟩
    have HS10 := Lib.hid (HS9.out.trans hs10)
    have HL10 := Lib.hid (HL9.out.keepAll hs10)
    clear hK hs10
    obtain ⟨d1, l1, d2, ha1, hJ1, hy2, hJ2, hok2, hre⟩ := picks_on HJ.out HLO.out hgx more (by rw [← HUL.out]; omega) (by have := HFA.out; rw [← HN.out, ← HUL.out]; omega)
    have hsz := HJ.out.size
    have happ := wappend_any p g r F8 _ d l _ more w10 HL10.out (HJ.out.fit (by omega)) (HU.out.keep (HS10.out.mono fun _ _ _ => trivial)) (by rw [← HUL.out]; omega) (by rw [hsz, ← HN.out, ← HUL.out]; have := HFA.out; omega) (HJ.out.wfit (by omega))
    rw [ha1] at happ
    have HY2 := Lib.hid hy2
    have HJ1 := Lib.hid hJ1
    have HJ2 := Lib.hid hJ2
    have HRE := Lib.hid hre
    have HOK := Lib.hid hok2
    clear ha1 hy2 hJ1 hJ2 hre hok2 hsz
    go_wp2_with (go_at_call 18; refine stopAt ?_)
    unfold Hid
    refine happ.mono ?_
    rintro e w11 ⟨rfl, ⟨F11, hF11, hL11⟩, hs11⟩
    have HS11 : Hid (Same (fun _ => True) w w11) := Lib.hid (HS10.out.trans' hs11 fun k hk _ => ⟨by omega, by omega, by omega⟩)
    have hsy := wsync_any p g r F11 d1 l1 w11 hL11 (HJ1.out.fit (by omega))
    rw [HY2.out] at hsy
    clear happ hs11 hF11 hL11
    go_wp2_with (go_at_call 19; refine stopAt ?_)
    unfold Hid
    refine hsy.mono ?_
    rintro e w12 ⟨rfl, ⟨F12, hF12, hL12⟩, hs12⟩
    have HS12 : Hid (Same (fun _ => True) w w12) := Lib.hid (HS11.out.trans' hs12 fun k hk _ => ⟨by omega, by omega, by omega⟩)
    have hpow := dpower_any g r F12 (fun _ => False) d2 [] (.slice none 0 0) w12 hL12.disk HOK.out (ints_nil _ _) (fun k h => h.elim) (by have h0 := HJ2.out.len.f0; have h1 := HJ2.out.len.f1; omega) (by rw [HJ2.out.lives]; omega)
    clear hsy hs12 hF12 hL12
    go_wp2_with (go_at_call 20; refine stopAt ?_)
    unfold Hid
    refine hpow.mono ?_
    rintro e w13 ⟨rfl, hD13, hs13⟩
    have HS13 : Hid (Same (fun _ => True) w w13) := Lib.hid (HS12.out.trans' hs13 fun k hk _ => by constructor <;> omega)
    obtain ⟨m0, hm0⟩ := look_total (d2.power []).f0.b
    obtain ⟨m1, hm1⟩ := look_total (d2.power []).f1.b
    obtain ⟨d3, l3, hop3⟩ := HRE.out m0 m1 hm0 hm1
    have hlp := HJ2.out.len.power []
    have hop := wopen_any g r _ (d2.power []) m0 m1 _ hD13 ⟨⟨Int.le_refl _, show (-1 : Int) ≤ _ by decide⟩, by show d2.steps < _; have := HJ2.out.steps; omega⟩ (by show d2.steps + 3 < _; have := HJ2.out.steps; omega) hm0 hm1 (by have := hlp.f0; omega) (by have := hlp.f1; omega)
    rw [hop3] at hop
    clear hpow hs13 hD13 hop3 hm0 hm1 hlp
    go_wp2_with (go_at_call 15; refine stopAt ?_)
    unfold Hid
    refine hop.mono ?_
    intro e w14 hpost
    obtain ⟨A14, c14, F14, rfl, -, hby14, -, hs14⟩ := hpost.some
    have HS14 : Hid (Same (fun _ => True) w w14) := Lib.hid (HS13.out.trans' hs14 fun k hk _ => by constructor <;> omega)
    have HBY14 := Lib.hid hby14
    have hal : (a ++ [more]).length = N + 1 := by rw [List.length_append, ← HN.out]; rfl
    rw [hal] at hby14
    have HBY14 := Lib.hid hby14
    clear hop hpost hs14 hby14
    rw [hal]
    clear hal
    go_wp2
    refine wp_region_tail_d (L := [.eq (.int .i64 0), .eq (.bool true), .eq (.bool true), .eq (.slice A14 (N + 1) c14), .eq (.slice A N ca), .of ⟨fun v w => OwnS w w14.heap.size v a, fun _ _ _ h k => h.keepAll k⟩, .eq (.slice U UL cu), .eq (.string (str more)), .of ⟨fun v w => ∃ q, v = .slice (some ⟨q, 0, none⟩) 1 1 ∧ Row w q 9 [strV more], fun _ _ _ ⟨q, h1, h2⟩ k => ⟨q, h1, h2.keep k trivial⟩⟩]) 9 3 (by omega) (by kernel_rfl) (by kernel_rfl) rfl rfl rfl rfl rfl rfl ?_ ?_ ?_
    · refine ⟨?_, ?_, ?_, ?_, ?_, ?_, ?_, ?_, ?_, trivial⟩
      · intro ac wc hs hd hz hf hw K hK
        have e0 : ac.eval (.tmp 18) = (.int .i64 0) := hf 18 rfl
        clear hd hz hf hw
        simp only [Region.wanted, if_true, Oper.wp, execOp, resolve, List.map_toArray, List.map_cons, List.map_nil, Option.map_some, Option.map_none, e0]
        go_simp
        exact hK _ _ rfl (Same.refl _ _)
      · intro ac wc hs hd hz hf hw K hK
        have e0 : ac.eval (.tmp 122) = (.int .i64 0) := hw 0 rfl
        clear hd hz hf hw
        simp only [Region.wanted, if_true, Oper.wp, execOp, resolve, List.map_toArray, List.map_cons, List.map_nil, Option.map_some, Option.map_none, e0]
        go_simp
        exact hK _ _ rfl (Same.refl _ _)
      · intro ac wc hs hd hz hf hw K hK
        have e0 : ac.eval (.tmp 123) = (.bool true) := hw 1 rfl
        clear hd hz hf hw
        simp only [Region.wanted, if_true, Oper.wp, execOp, resolve, List.map_toArray, List.map_cons, List.map_nil, Option.map_some, Option.map_none, e0]
        go_simp
        exact hK _ _ rfl (Same.refl _ _)
      · intro ac wc hs hd hz hf hw K hK
        have eg : ac.eval (.tmp 124) = .bool true := hw 2 rfl
        refine run_wanted (j := 2) (d := 124) (b := true) rfl rfl hz (of_decide_eq_true rfl) eg ?_
        clear eg
        have e0 : ac.eval (.tmp 21) = (.slice A14 (N + 1) c14) := hf 21 rfl
        clear hd hz hf hw
        simp only [Oper.wp, execOp, resolve, List.map_toArray, List.map_cons, List.map_nil, Option.map_some, Option.map_none, e0]
        go_simp
        exact hK _ _ rfl (Same.refl _ _)
      · intro ac wc hs hd hz hf hw K hK
        have eg : ac.eval (.tmp 124) = .bool true := hw 2 rfl
        refine run_wanted (j := 2) (d := 124) (b := true) rfl rfl hz (of_decide_eq_true rfl) eg ?_
        clear eg
        have e0 : ac.eval (.tmp 19) = (.slice A N ca) := hf 19 rfl
        clear hd hz hf hw
        simp only [Oper.wp, execOp, resolve, List.map_toArray, List.map_cons, List.map_nil, Option.map_some, Option.map_none, e0]
        go_simp
        exact hK _ _ rfl (Same.refl _ _)
      · intro ac wc hs hd hz hf hw K hK
        have eg : ac.eval (.tmp 124) = .bool true := hw 2 rfl
        refine run_wanted (j := 2) (d := 124) (b := true) rfl rfl hz (of_decide_eq_true rfl) eg ?_
        clear eg
        have e0 : ac.eval (.tmp 126) = (.slice A N ca) := hw 4 rfl
        clear hd hz hf hw
        simp only [Oper.wp, execOp, resolve, List.map_toArray, List.map_cons, List.map_nil, Option.map_some, Option.map_none, e0]
        go_simp
        refine (texts_any _ a _ wc (HA.out.keep ((HS14.out.trans hs).mono fun _ _ _ => trivial)) (by rw [← HN.out]; omega)).mono ?_
        rintro e wd ⟨ut, rfl, hut, hst⟩
        exact hK _ _ (OwnS.lower hut hs.size) hst
      · intro ac wc hs hd hz hf hw K hK
        have eg : ac.eval (.tmp 124) = .bool true := hw 2 rfl
        refine run_wanted (j := 2) (d := 124) (b := true) rfl rfl hz (of_decide_eq_true rfl) eg ?_
        clear eg
        have e0 : ac.eval (.tmp 5) = (.slice U UL cu) := hf 5 rfl
        clear hd hz hf hw
        simp only [Oper.wp, execOp, resolve, List.map_toArray, List.map_cons, List.map_nil, Option.map_some, Option.map_none, e0]
        go_simp
        exact hK _ _ rfl (Same.refl _ _)
      · intro ac wc hs hd hz hf hw K hK
        have eg : ac.eval (.tmp 124) = .bool true := hw 2 rfl
        refine run_wanted (j := 2) (d := 124) (b := true) rfl rfl hz (of_decide_eq_true rfl) eg ?_
        clear eg
        have e0 : ac.eval (.tmp 128) = (.slice U UL cu) := hw 6 rfl
        have hcv := conv_by (HU.out.keep ((HS14.out.trans hs).mono fun _ _ _ => trivial))
        clear hd hz hf hw
        simp only [Oper.wp, execOp, resolve, List.map_toArray, List.map_cons, List.map_nil, Option.map_some, Option.map_none, e0]
        go_simp
        exact hK _ _ rfl (Same.refl _ _)
      · intro ac wc hs hd hz hf hw K hK
        have eg : ac.eval (.tmp 124) = .bool true := hw 2 rfl
        refine run_wanted (j := 2) (d := 124) (b := true) rfl rfl hz (of_decide_eq_true rfl) eg ?_
        clear eg
        have e0 : ac.eval (.tmp 129) = (.string (str more)) := hw 7 rfl
        clear hd hz hf hw
        simp only [Oper.wp, execOp, resolve, List.map_toArray, List.map_cons, List.map_nil, Option.map_some, Option.map_none, e0]
        go_simp
        exact hK _ _ ⟨_, rfl, Row.new _ _ _⟩ ((Same.refl _ _).alloc _)
    · intro vs wR hvl hvp hsR
      rcases vs with _ | ⟨z0, _ | ⟨z1, _ | ⟨z2, _ | ⟨z3, _ | ⟨z4, _ | ⟨z5, _ | ⟨z6, _ | ⟨z7, _ | ⟨z8, _ | ⟨zz, zr⟩⟩⟩⟩⟩⟩⟩⟩⟩⟩
      rotate_right 1
      · simp at hvl
      · simp at hvl
      · simp at hvl
      · simp at hvl
      · simp at hvl
      · simp at hvl
      · simp at hvl
      · simp at hvl
      · simp at hvl
      · simp at hvl
      · obtain rfl : z0 = (.int .i64 0) := hvp 0 (by omega)
        obtain rfl : z1 = (.bool true) := hvp 1 (by omega)
        obtain rfl : z2 = (.bool true) := hvp 2 (by omega)
        obtain rfl : z3 = (.slice A14 (N + 1) c14) := hvp 3 (by omega)
        obtain rfl : z4 = (.slice A N ca) := hvp 4 (by omega)
        have hxt : (⟨fun v w => OwnS w w14.heap.size v a, fun _ _ _ h k => h.keepAll k⟩ : SP).p z5 wR := hvp 5 (by omega)
        obtain rfl : z6 = (.slice U UL cu) := hvp 6 (by omega)
        obtain rfl : z7 = (.string (str more)) := hvp 7 (by omega)
        have hxb : (⟨fun v w => ∃ q, v = .slice (some ⟨q, 0, none⟩) 1 1 ∧ Row w q 9 [strV more], fun _ _ _ ⟨q, h1, h2⟩ k => ⟨q, h1, h2.keep k trivial⟩⟩ : SP).p z8 wR := hvp 8 (by omega)
        clear hvl hvp
        simp only [putAll, Act.put, List.setIfInBounds_toArray, List.set_cons_succ, List.set_cons_zero, List.take_succ_cons, List.take_zero, List.drop_succ_cons, List.drop_zero, List.eraseIdx_cons_succ, List.eraseIdx_cons_zero]
        obtain ⟨q0, rfl, hrow⟩ := hxb
        obtain ⟨A15, c15, rfl, -, -⟩ := OwnS.form hxt
        have hsl1 : Sl wR (fun _ => True) 1 (some ⟨q0, 0, none⟩) 1 [strV more] := by
          have := hrow.sl (size := 1) (off := 0) (n := 1) (by simp)
          exact (by simpa using this : Sl wR (fun k => k = q0) 1 (some ⟨q0, 0, none⟩) 1 [strV more]).mono fun _ _ _ => trivial
        go_wp2_with (at_builtin; refine stopAt ?_)
        unfold Hid
        refine wpList_appG TSt rfl rfl rfl (of_decide_eq_true rfl) rfl (.tmp 127) (.tmp 130) rfl (B := w14.heap.size) (k := a.length) (xs := a.map strV) rfl rfl hxt hsl1 (by simp [Value.oneCell']) (by have := hsR.size; omega) (by rw [← HN.out]; omega) (by omega) ?_
        intro v16 w16 hown16 hs16
        have hown : OwnS w16 w14.heap.size v16 (a ++ [more]) := by
          unfold OwnS
          rw [List.length_append, List.map_append]
          exact hown16
        have HS16 : Hid (Same (fun _ => True) w14 w16) := Lib.hid (hsR.trans' hs16 fun k hk _ e => by have := own_ge hxt e; omega)
        have hal : (a ++ [more]).length = N + 1 := by rw [List.length_append, ← HN.out]; rfl
        have HK := alike_any _ v16 (a ++ [more]) (a ++ [more]) _ _ w16 (HBY14.out.keep (HS16.out.mono fun _ _ _ => trivial)) hown.rd (by rw [hal]; omega) (by rw [hal]; omega)
        rw [show decide (a ++ [more] = a ++ [more]) = true by simp] at HK
        obtain ⟨A17, c17, rfl, -, -⟩ := OwnS.form hown
        rw [hal] at HK ⊢
        clear hal hown hown16 hs16 hsl1 hrow hxt
        go_wp2_with (go_at_call 16; refine stopAt ?_)
        unfold Hid
        refine HK.mono ?_
        rintro e w17 ⟨rfl, hs17⟩
        clear HK
        go_wp2
        go_ret
        exact ⟨rfl, (HS14.out.trans HS16.out).trans hs17⟩
    · intro vs wR hvl hvp hsR
      rcases vs with _ | ⟨z0, _ | ⟨z1, _ | ⟨z2, _ | ⟨z4, _ | ⟨z5, _ | ⟨z6, _ | ⟨z7, _ | ⟨z8, _ | ⟨zz, zr⟩⟩⟩⟩⟩⟩⟩⟩⟩
      rotate_right 1
      · simp at hvl
      · simp at hvl
      · simp at hvl
      · simp at hvl
      · simp at hvl
      · simp at hvl
      · simp at hvl
      · simp at hvl
      · simp at hvl
      · obtain rfl : z0 = (.int .i64 0) := hvp 0 (by omega)
        obtain rfl : z1 = (.bool true) := hvp 1 (by omega)
        obtain rfl : z2 = (.bool true) := hvp 2 (by omega)
        obtain rfl : z4 = (.slice A N ca) := hvp 3 (by omega)
        have hxt : (⟨fun v w => OwnS w w14.heap.size v a, fun _ _ _ h k => h.keepAll k⟩ : SP).p z5 wR := hvp 4 (by omega)
        obtain rfl : z6 = (.slice U UL cu) := hvp 5 (by omega)
        obtain rfl : z7 = (.string (str more)) := hvp 6 (by omega)
        have hxb : (⟨fun v w => ∃ q, v = .slice (some ⟨q, 0, none⟩) 1 1 ∧ Row w q 9 [strV more], fun _ _ _ ⟨q, h1, h2⟩ k => ⟨q, h1, h2.keep k trivial⟩⟩ : SP).p z8 wR := hvp 7 (by omega)
        clear hvl hvp
        simp only [putAll, Act.put, List.setIfInBounds_toArray, List.set_cons_succ, List.set_cons_zero, List.take_succ_cons, List.take_zero, List.drop_succ_cons, List.drop_zero, List.eraseIdx_cons_succ, List.eraseIdx_cons_zero]
        obtain ⟨q0, rfl, hrow⟩ := hxb
        obtain ⟨A15, c15, rfl, -, -⟩ := OwnS.form hxt
        have hsl1 : Sl wR (fun _ => True) 1 (some ⟨q0, 0, none⟩) 1 [strV more] := by
          have := hrow.sl (size := 1) (off := 0) (n := 1) (by simp)
          exact (by simpa using this : Sl wR (fun k => k = q0) 1 (some ⟨q0, 0, none⟩) 1 [strV more]).mono fun _ _ _ => trivial
        go_wp2_with (at_builtin; refine stopAt ?_)
        unfold Hid
        refine wpList_appG TSt rfl rfl rfl (of_decide_eq_true rfl) rfl (.tmp 127) (.tmp 130) rfl (B := w14.heap.size) (k := a.length) (xs := a.map strV) rfl rfl hxt hsl1 (by simp [Value.oneCell']) (by have := hsR.size; omega) (by rw [← HN.out]; omega) (by omega) ?_
        intro v16 w16 hown16 hs16
        have hown : OwnS w16 w14.heap.size v16 (a ++ [more]) := by
          unfold OwnS
          rw [List.length_append, List.map_append]
          exact hown16
        have HS16 : Hid (Same (fun _ => True) w14 w16) := Lib.hid (hsR.trans' hs16 fun k hk _ e => by have := own_ge hxt e; omega)
        have hal : (a ++ [more]).length = N + 1 := by rw [List.length_append, ← HN.out]; rfl
        have HK := alike_any _ v16 (a ++ [more]) (a ++ [more]) _ _ w16 (HBY14.out.keep (HS16.out.mono fun _ _ _ => trivial)) hown.rd (by rw [hal]; omega) (by rw [hal]; omega)
        rw [show decide (a ++ [more] = a ++ [more]) = true by simp] at HK
        obtain ⟨A17, c17, rfl, -, -⟩ := OwnS.form hown
        rw [hal] at HK ⊢
        clear hal hown hown16 hs16 hsl1 hrow hxt
        go_wp2_with (go_at_call 16; refine stopAt ?_)
        unfold Hid
        refine HK.mono ?_
        rintro e w17 ⟨rfl, hs17⟩
        clear HK
        go_wp2
        go_ret
        exact ⟨rfl, (HS14.out.trans HS16.out).trans hs17⟩
end Go.Proofs.Ytpjinngngbifoaa
